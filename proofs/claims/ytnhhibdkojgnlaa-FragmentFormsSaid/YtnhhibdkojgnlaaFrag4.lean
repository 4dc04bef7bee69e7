/- What is proved: what Take of a joiner answers when it is called; conditions: what the joiner holds is held. -/
import Derived.Test.YtnhhibdkojgnlaaFrag3
set_option linter.unusedSimpArgs false
set_option linter.unusedVariables false
namespace Go.Proofs.Ytnhhibdkojgnlaa
open Go.RowKit
open Go.ChangeMaps (setBlock heap_setBlock_same heap_setBlock_other)
set_option maxRecDepth 100000
set_option maxHeartbeats 8000000
/-- What a joiner may hold. -/
structure JOk (s : JS) : Prop where
  part : ∀ p ∈ s.L, p.bs.length ≤ 1024 ∧ 0 ≤ p.n ∧ p.n < 256
  one : (s.L.map (·.n)).Nodup
  sum : s.bytes = ((s.L.map (·.bs.length)).sum : Nat)
def staleS (s : JS) (id : Int) : Bool := s.any && (decide (id < s.id) || (id == s.id && s.ended))
def freshS (s : JS) (id : Int) : JS := if s.any && !decide (s.id < id) then s else ⟨true, id, false, 0, []⟩
def addS (s : JS) (p : HP) : JS := match findL p.n s.L with
  | some _ => s
  | none => { s with L := s.L ++ [p], bytes := s.bytes + (p.bs.length : Int) }
def endS (s : JS) : JS := if (wholeF s.L 256 0 []).isSome then { s with L := [], ended := true, bytes := 0 } else s
theorem nodup_nat : ∀ (n : Nat) (l : List Nat), l.Nodup → (∀ x ∈ l, x < n) → l.length ≤ n
  | 0, [], _, _ => Nat.le_refl _
  | 0, x :: l, _, h => absurd (h x (List.mem_cons_self ..)) (by omega)
  | n + 1, l, hn, h => by
    have h1 := nodup_nat n (l.erase n) (hn.erase n) (fun x hx => by
      rw [hn.mem_erase_iff] at hx
      have := h x hx.2
      have := hx.1
      omega)
    rw [List.length_erase] at h1
    split at h1 <;> omega
theorem nodup_len {l : List Int} (h : l.Nodup) (hb : ∀ x ∈ l, 0 ≤ x ∧ x < 256) : l.length ≤ 256 := by
  have h1 : (l.map Int.toNat).Nodup := by
    rw [List.nodup_iff_pairwise_ne, List.pairwise_map]
    refine List.Pairwise.imp_of_mem ?_ (List.nodup_iff_pairwise_ne.1 h)
    intro a b ha hb' hne e
    have := hb a ha
    have := hb b hb'
    omega
  have h3 := nodup_nat 256 _ h1 (fun x hx => by
    obtain ⟨y, hy, rfl⟩ := List.mem_map.1 hx
    have := hb y hy
    omega)
  simpa using h3
theorem sum_le : ∀ {L : List HP}, (∀ p ∈ L, p.bs.length ≤ 1024) → (L.map (·.bs.length)).sum ≤ 1024 * L.length
  | [], _ => by simp
  | p :: L, h => by
    have h1 := h p (List.mem_cons_self ..)
    have h2 := sum_le (L := L) (fun q hq => h q (List.mem_cons_of_mem _ hq))
    simp only [List.map_cons, List.sum_cons, List.length_cons]
    omega
theorem JOk.len {s : JS} (h : JOk s) : s.L.length ≤ 256 := by
  have := nodup_len h.one (fun x hx => by
    obtain ⟨p, hp, rfl⟩ := List.mem_map.1 hx
    exact (h.part p hp).2)
  simpa using this
theorem JOk.bytes {s : JS} (h : JOk s) : 0 ≤ s.bytes ∧ s.bytes ≤ 262144 := by
  have h1 := sum_le (fun p hp => (h.part p hp).1)
  have h2 := h.len
  have h3 := h.sum
  omega
theorem findL_none {n : Int} {L : List HP} (h : findL n L = none) : n ∉ L.map (·.n) := by
  unfold findL at h
  rw [List.find?_eq_none] at h
  intro hm
  obtain ⟨p, hp, rfl⟩ := List.mem_map.1 hm
  exact h p hp (by simp)
theorem JOk.fresh {s : JS} (h : JOk s) (id : Int) : JOk (freshS s id) := by
  unfold freshS
  split
  · exact h
  · exact ⟨by simp, by simp, by simp⟩
theorem JOk.add {s : JS} (h : JOk s) {p : HP} (hl : p.bs.length ≤ 1024) (h0 : 0 ≤ p.n) (h1 : p.n < 256) : JOk (addS s p) := by
  unfold addS
  split
  · exact h
  · rename_i hf
    refine ⟨?_, ?_, ?_⟩
    · intro q hq
      rcases List.mem_append.1 hq with hq | hq
      · exact h.part q hq
      · obtain rfl := List.mem_singleton.1 hq
        exact ⟨hl, h0, h1⟩
    · dsimp only
      rw [List.map_append, List.nodup_append]
      refine ⟨h.one, by simp, ?_⟩
      intro a ha b hb e
      simp only [List.map_cons, List.map_nil, List.mem_singleton] at hb
      exact findL_none hf (by rw [← hb, ← e]; exact ha)
    · dsimp only
      rw [h.sum, List.map_append, List.sum_append]
      simp
theorem JOk.ends {s : JS} (h : JOk s) : JOk (endS s) := by
  unfold endS
  split
  · exact ⟨by simp, by simp, by simp⟩
  · exact h
theorem Inv.then {w0 w1 w2 : World} {S S' : Nat → Prop} {γ : Gh} (h : Inv w0 S gh0 w1) (k : Inv w1 S' γ w2) (hS : ∀ g, S' g → g < w0.heap.size → S g) : Inv w0 S gh0 w2 where
  os := k.os.trans h.os
  tape := k.tape.trans h.tape
  output := k.output.trans h.output
  size := Nat.le_trans h.size k.size
  far g hg hs := (k.far g (Nat.lt_of_lt_of_le hg h.size) (fun h' => hs (hS g h' hg))).trans (h.far g hg hs)
  here t g o e := by cases e
  apart t t' g g' o o' e := by cases e
theorem Inv.ofBelow {w w1 : World} {S : Nat → Prop} (hb : Below w.heap.size w w1) : Inv w S gh0 w1 where
  os := hb.os
  tape := hb.tape
  output := hb.output
  size := hb.size
  far g hg _ := hb.block g hg
  here t g o e := by cases e
  apart t t' g g' o o' e := by cases e
theorem BB.inv {w0 w1 : World} {S : Nat → Prop} {γ : Gh} {v : Value} {xs : List Int} (h : BB w0 v xs) (k : Inv w0 S γ w1) (hS : ∀ b, 0 < xs.length → v.ownBlock = some b → ¬ S b) : BB w1 v xs :=
  h.keep fun b h1 h2 h3 => k.far b h3 (hS b h1 h2)
/-- What lies where while a part is taken. -/
structure TK (w wr : World) (J M B : Nat) (s : JS) (row : Array Value) : Prop where
  j : JW wr J M s
  hB : wr.heap[B]? = some (.cells row 33 (0, 0))
  fr : Inv w (fun g => g = J ∨ g = M) gh0 wr
  lt : w.heap.size = B ∧ J < B ∧ M < B
  ap : ∀ p ∈ s.L, ∀ b, 0 < p.bs.length → p.v.ownBlock = some b → b ≠ B
theorem JW.invJ {w w1 : World} {J M : Nat} {s s' : JS} {γ : Gh} (h : JW w J M s) (hI : Inv w (fun g => g = J) γ w1) (hγ : γ 0 = some (J, .cells (jrow M s') 60 (0, 0))) (hL : s'.L = s.L) (hid : s.L = [] ∨ s'.id = s.id) : JW w1 J M s' := by
  obtain ⟨es, k, h1, h2⟩ := h.hM
  refine ⟨(hI.here 0 J _ hγ).1, ⟨es, k, (hI.far M (lt_of_heap h1) (fun e => h.ne e.symm)).trans h1, ?_⟩, ?_, h.ne⟩
  · rw [hL]
    rcases hid with e | e
    · rw [e] at h2 ⊢
      match hes : es.toList, h2 with
      | [], _ => trivial
    · rw [e]; exact h2
  · intro p hp
    rw [hL] at hp
    exact ⟨(h.hP p hp).1.inv hI (fun b h3 h4 => ((h.hP p hp).2 b h3 h4).1), (h.hP p hp).2⟩
theorem JW.invM {w w1 : World} {J M : Nat} {s s' : JS} {γ : Gh} {es : Array MapEntry} {k : Nat} (h : JW w J M s) (hI : Inv w (fun g => g = M) γ w1) (hγ : γ 0 = some (M, .map es k)) (hE : Ents s'.id es.toList s'.L) (hr : jrow M s' = jrow M s) (hP : ∀ p ∈ s'.L, BB w p.v p.bs ∧ ∀ b, 0 < p.bs.length → p.v.ownBlock = some b → b ≠ J ∧ b ≠ M) : JW w1 J M s' :=
  ⟨by rw [hr]; exact (hI.far J (lt_of_heap h.hJ) h.ne).trans h.hJ, ⟨es, k, (hI.here 0 M _ hγ).1, hE⟩, fun p hp => ⟨(hP p hp).1.inv hI (fun b h3 h4 => ((hP p hp).2 b h3 h4).2), (hP p hp).2⟩, h.ne⟩
theorem TK.below {w wr w1 : World} {J M B : Nat} {s : JS} {row : Array Value} (h : TK w wr J M B s row) (hb : Below wr.heap.size wr w1) : TK w w1 J M B s row :=
  ⟨h.j.below hb, (hb.block B (lt_of_heap h.hB)).trans h.hB, h.fr.below hb, h.lt, h.ap⟩
theorem TK.invJ {w wr w1 : World} {J M B : Nat} {s s' : JS} {row : Array Value} {γ : Gh} (h : TK w wr J M B s row) (hI : Inv wr (fun g => g = J) γ w1) (hγ : γ 0 = some (J, .cells (jrow M s') 60 (0, 0))) (hL : s'.L = s.L) (hid : s.L = [] ∨ s'.id = s.id) : TK w w1 J M B s' row :=
  ⟨h.j.invJ hI hγ hL hid, (hI.far B (lt_of_heap h.hB) (by have := h.lt; omega)).trans h.hB, h.fr.then hI (fun g hg _ => .inl hg), h.lt, by rw [hL]; exact h.ap⟩
theorem TK.invM {w wr w1 : World} {J M B : Nat} {s s' : JS} {row : Array Value} {γ : Gh} {es : Array MapEntry} {k : Nat} (h : TK w wr J M B s row) (hI : Inv wr (fun g => g = M) γ w1) (hγ : γ 0 = some (M, .map es k)) (hE : Ents s'.id es.toList s'.L) (hr : jrow M s' = jrow M s) (hP : ∀ p ∈ s'.L, BB wr p.v p.bs ∧ ∀ b, 0 < p.bs.length → p.v.ownBlock = some b → b ≠ J ∧ b ≠ M) (hA : ∀ p ∈ s'.L, ∀ b, 0 < p.bs.length → p.v.ownBlock = some b → b ≠ B) : TK w w1 J M B s' row :=
  ⟨h.j.invM hI hγ hE hr hP, (hI.far B (lt_of_heap h.hB) (by have := h.lt; omega)).trans h.hB, h.fr.then hI (fun g hg _ => .inr hg), h.lt, hA⟩
theorem Only.inv {w w1 : World} {g : Nat} {o o' : Obj} (h : Only g o' w w1) (ho : w.heap[g]? = some o) : Inv w (fun k => k = g) (gh2 (some (g, o')) none) w1 where
  os := h.os
  tape := h.tape
  output := h.output
  size := by rw [h.size]; exact Nat.le_refl _
  far k _ hk := h.far k hk
  here t k ob e := by
    unfold gh2 at e
    split at e
    · simp only [Option.some.injEq, Prod.mk.injEq] at e
      obtain ⟨rfl, rfl⟩ := e
      exact ⟨h.here, fun _ => rfl⟩
    · split at e <;> cases e
  apart t t' k k' ob ob' e e' hne := by
    unfold gh2 at e e'
    split at e
    · split at e'
      · omega
      · split at e' <;> cases e'
    · split at e <;> cases e
theorem TK.setB {w wr : World} {J M B : Nat} {s : JS} {row row' : Array Value} {i : Nat} {v : Value} (h : TK w wr J M B s row) (hr : row.setIfInBounds i v = row') : TK w (wr.setCell ⟨B, i, none⟩ v) J M B s row' := by
  subst hr
  have hI := (only_setCell (i := i) (v := v) h.hB).inv h.hB
  have hl := h.lt
  obtain ⟨es, k, h1, h2⟩ := h.j.hM
  exact ⟨⟨(hI.far J (lt_of_heap h.j.hJ) (by omega)).trans h.j.hJ, ⟨es, k, (hI.far M (lt_of_heap h1) (by omega)).trans h1, h2⟩, fun p hp => ⟨(h.j.hP p hp).1.inv hI (fun b h3 h4 => h.ap p hp b h3 h4), (h.j.hP p hp).2⟩, h.j.ne⟩, (hI.here 0 B _ rfl).1, h.fr.then hI (fun g hg hl2 => by omega), h.lt, h.ap⟩
theorem BB.notJ {w : World} {J M : Nat} {s : JS} {v : Value} {bs : List Int} (hj : JW w J M s) (hv : BB w v bs) (b : Nat) (hl : 0 < bs.length) (hb : v.ownBlock = some b) : b ≠ J ∧ b ≠ M := by
  obtain ⟨_, _, A, cap, rfl, hr, _⟩ := hv
  obtain ⟨b', off, rfl, hc⟩ := hr.2 hl
  obtain rfl : b' = b := by simpa [Value.ownBlock] using hb
  have h0 := hc 0 hl
  obtain ⟨es, k, hM, _⟩ := hj.hM
  constructor
  · rintro rfl
    rw [cell_of_row _ _ _ _ _ _ hj.hJ] at h0
    have hlt : off + 0 < 5 := by
      have := (Array.getElem?_eq_some_iff.1 h0).1
      simpa [jrow] using this
    rcases (by omega : off + 0 = 0 ∨ off + 0 = 1 ∨ off + 0 = 2 ∨ off + 0 = 3 ∨ off + 0 = 4) with e | e | e | e | e <;> rw [e] at h0 <;> simp [jrow] at h0
  · rintro rfl
    simp [World.cell?, hM] at h0
theorem st_bool (x : Bool) (W : World) (a : Addr) (h1 : (W.cell? a).isSome = true) (h2 : W.frozen? a = false) : (Instr.storeAt 4 (.pointer (some a)) (.bool x)).run Try.prog W = .ok () (W.setCell a (.bool x)) := by
  obtain ⟨u, hu⟩ := Option.isSome_iff_exists.1 h1
  go_simp
theorem st_u64 (x : Int) (W : World) (a : Addr) (h1 : (W.cell? a).isSome = true) (h2 : W.frozen? a = false) : (Instr.storeAt 25 (.pointer (some a)) (.int .u64 x)).run Try.prog W = .ok () (W.setCell a (.int .u64 x)) := by
  obtain ⟨u, hu⟩ := Option.isSome_iff_exists.1 h1
  go_simp
theorem st_int (x : Int) (W : World) (a : Addr) (h1 : (W.cell? a).isSome = true) (h2 : W.frozen? a = false) : (Instr.storeAt 3 (.pointer (some a)) (.int .i64 x)).run Try.prog W = .ok () (W.setCell a (.int .i64 x)) := by
  obtain ⟨u, hu⟩ := Option.isSome_iff_exists.1 h1
  go_simp
theorem placeInfo : (Try.prog.info? 62).map (·.size) = some 2 := by kernel_rfl
theorem placeRow : ∃ d, Try.prog.underlying 62 = some d ∧ d.isRow = true := ⟨_, Try.underlying62, rfl⟩
theorem exec_put {o : Oper} {a : Act} {x y z : Operand} {id : Int} {p : HP} {W : World} {M : Nat} {es : Array MapEntry} {k : Nat} {L : List HP} (ho : o.op = .mapUpdate 58 x y z) (hx : a.eval x = .map (some M)) (hy : a.eval y = keyP id p.n) (hz : a.eval z = p.val id) (h : Ents id es.toList L) (hf : findL p.n L = none) (hM : W.heap[M]? = some (.map es k)) :
    ∃ W', (execOp a.eval o).run Try.prog W = .ok .skip W' ∧ Only M (.map (es.push ⟨keyP id p.n, p.val id, k⟩) (k + 1)) W W' := by
  refine ⟨_, ?_, only_setBlock hM⟩
  unfold execOp
  simp only [ho, hx, hy, hz, Sem.run_bind, run_put id p W hM h hf, Result.andThen_ok]
  rfl
theorem TK.startJ {w wr : World} {J M B : Nat} {s : JS} {row : Array Value} (h : TK w wr J M B s row) : Inv wr (fun g => g = J) (gh2 (some (J, .cells (jrow M s) 60 (0, 0))) none) wr.drew :=
  Inv.start2 h.j.hJ rfl (by rintro g o h; cases h)
theorem wpList_clear {ops : Array Oper} {rest : List Oper} {o : Oper} {a : Act} {Q : Exit → Act → World → Prop} {w : World} {M : Nat} {es : Array MapEntry} {k : Nat} (hgd : o.guard = none) (x : Operand) (ho : o.op = .call { callee := .builtin .clear, args := #[x], argTypes := #[58] }) (hx : a.eval x = .map (some M))
    (hM : w.heap[M]? = some (.map es k)) (h : ∀ w', Only M (.map #[] k) w w' → wpList Try.prog ops Q rest (a.put o.dst (.tuple #[])) w') : wpList Try.prog ops Q (o :: rest) a w := by
  refine wpList_plain hgd fun K hK => ?_
  have hr : (execOp a.eval o).run Try.prog w = .ok (.value (.tuple #[])) (setBlock w M (.map #[] k)) := by
    have hc := run_clear (ty := o.type) w hM
    unfold execOp
    simp [ho, resolve, invoke, builtin, hx, hc, Result.andThen]
  unfold Oper.wp
  rw [hr]
  exact hK _ _ (h _ (only_setBlock hM))
theorem TK.setJ {w wr : World} {J M B : Nat} {s s' : JS} {row : Array Value} {i : Nat} {v : Value} (h : TK w wr J M B s row) (hr : (jrow M s).setIfInBounds i v = jrow M s') (hL : s'.L = s.L) (hid : s.L = [] ∨ s'.id = s.id) : TK w (wr.setCell ⟨J, i, none⟩ v) J M B s' row :=
  h.invJ ((only_setCell (i := i) (v := v) h.j.hJ).inv h.j.hJ) (by rw [hr]; rfl) hL hid
theorem TK.cleared {w wr w1 : World} {J M B : Nat} {s : JS} {row : Array Value} {es : Array MapEntry} {k : Nat} (h : TK w wr J M B s row) (hM : wr.heap[M]? = some (.map es k)) (ho : Only M (.map #[] k) wr w1) : TK w w1 J M B { s with L := [] } row :=
  h.invM (s' := { s with L := [] }) (ho.inv hM) rfl trivial rfl (by simp) (by simp)
theorem TK.cellB {w wr : World} {J M B : Nat} {s : JS} {row : Array Value} (h : TK w wr J M B s row) {i : Nat} {v : Value} (hv : row[i]? = some v) : wr.cell? ⟨B, i, none⟩ = some v := (cell_of_row _ _ _ _ _ _ h.hB).trans hv
def errT (m : Bool) : Int := bif m then 0 else 2
def takeS (s : JS) (id : Int) (p : HP) : JS := if mayB p.n p.last p.bs.length then (if staleS s id then s else endS (addS (freshS s id) p)) else s
def takeR (s : JS) (id : Int) (p : HP) : Option (List Int) := if mayB p.n p.last p.bs.length then (if staleS s id then none else wholeF (addS (freshS s id) p).L 256 0 []) else none
theorem take_any (J M : Nat) (s : JS) (id n : Int) (last : Bool) (v : Value) (bs : List Int) (w : World) (h : JW w J M s) (hs : JOk s) (hv : BB w v bs) :
    Calls Try.prog 8 #[.pointer (some ⟨J, 0, none⟩), partV id n last v] w fun e w' => ∃ vr vc, e = .returned (.tuple #[vr, .bool (takeR s id ⟨n, last, vc, bs⟩).isSome, .int .i64 (errT (mayB n last bs.length))]) ∧ OwB w' w.heap.size vr ((takeR s id ⟨n, last, vc, bs⟩).getD []) ∧ JW w' J M (takeS s id ⟨n, last, vc, bs⟩) ∧ Inv w (fun g => g = J ∨ g = M) gh0 w' ∧ ∀ q ∈ (takeS s id ⟨n, last, vc, bs⟩).L, q ∈ s.L ∨ ∀ b, q.v.ownBlock = some b → w.heap.size ≤ b := by
  obtain ⟨B, hB⟩ : ∃ B, w.heap.size = B := ⟨_, rfl⟩
  obtain ⟨V, hV⟩ : ∃ V, w.alloc (.cells #[.int .u64 id, .int .i64 n, .bool last, v] 33) = V := ⟨_, rfl⟩
  have hb1 : Below w.heap.size w V := by rw [← hV]; (repeat' (first | (with_reducible exact Below.refl _ _) | (with_reducible assumption) | (with_reducible refine Below.alloc ?_ ?_ _) | (with_reducible refine below_setRow ?_ ?_ _) | (with_reducible refine bl_drew ?_) | (with_reducible refine bl_drewN ?_ _) | (with_reducible refine Below.setCell ?_ ?_ _) | (with_reducible refine bl_then ?_ ?_ hb) | (with_reducible refine bl_then ?_ ?_ hb1) | (with_reducible refine bl_then ?_ ?_ hb2) | (with_reducible refine bl_then ?_ ?_ hb3) | (with_reducible refine bl_then ?_ ?_ hb4) | (with_reducible refine bl_then ?_ ?_ hb5) | (with_reducible refine bl_then ?_ ?_ hb6) | (with_reducible refine bl_then ?_ ?_ hb7) | (with_reducible refine bl_then ?_ ?_ hb8) | (with_reducible exact Nat.le_refl _) | omega | (simp only [World.size_alloc, World.size_setCell, World.size_drew, size_setRow]; omega) | (simp; omega) | (simp; done)))
  obtain ⟨es0, k0, hM0, _⟩ := h.hM
  have hlJ := lt_of_heap h.hJ
  have hlM := lt_of_heap hM0
  have HT : Hid (TK w V J M B s #[.int .u64 id, .int .i64 n, .bool last, v]) := Lib.hid ⟨h.below hb1, by rw [← hV, ← hB]; exact heap_alloc_last _ _, Inv.ofBelow hb1, ⟨hB, by omega, by omega⟩, fun p hp b h1 h2 => by have := (h.hP p hp).1.lt h1 h2; omega⟩
  have HV := Lib.hid (hv.below hb1)
  have HVN := Lib.hid (fun b h1 h2 => BB.notJ h hv b h1 h2)
  have HVB : Hid (∀ b, 0 < bs.length → v.ownBlock = some b → b ≠ B) := Lib.hid (fun b h1 h2 => by have := hv.lt h1 h2; omega)
  have HS := Lib.hid hs
  clear h hs hv hb1 hM0 hlJ hlM
  have e1 : partV id n last v = .agg #[.int .u64 id, .int .i64 n, .bool last, v] := rfl
  rw [e1]
  clear e1
  go_enter Try.func8, Try.ntmps8
  go_wp2_with fail
  refine (none_at J M V HT.out.j.cell.1).mono ?_
  rintro e w1 ⟨rfl, rfl⟩
  go_wp2_with (with_reducible refine wpList_ldB (row := #[.int .u64 id, .int .i64 n, .bool last, v]) partInfo partRow rfl (.tmp 3) rfl rfl HT.out.hB ?_)
  refine (may_any id n last v bs _ HV.out).mono ?_
  rintro e w2 ⟨rfl, hb2⟩
  have hT2 := HT.out.below hb2
  have HV2 := Lib.hid (HV.out.below hb2)
  clear HT HV hb2 hV
  have HT := Lib.hid hT2
  have HV := HV2
  clear hT2 HV2
  obtain ⟨any, id0, ended, bytes, L⟩ := s
  cases hmay : mayB n last bs.length with
  | false =>
    have HM := Lib.hid hmay
    clear hmay
    go_wp2_with fail
    refine bodyPost_ret (v := .tuple #[.slice none 0 0, .bool false, .int .i64 2]) (by simp [results, Try.results8, go_sem]) rfl ⟨.slice none 0 0, v, ?_, ?_, ?_, HT.out.fr, ?_⟩
    · simp [takeR, HM.out, errT]
    · simp only [takeR, HM.out]; exact OwB.nil _ _
    · simp only [takeS, HM.out]; exact HT.out.j
    · simp only [takeS, HM.out]; exact fun q hq => .inl hq
  | true =>
    have HM := Lib.hid hmay
    clear hmay
    go_wp2_with fail
    cases any
    · have HST : Hid (staleS ⟨false, id0, ended, bytes, L⟩ id = false) := Lib.hid (by simp [staleS])
      have HF : Hid (freshS ⟨false, id0, ended, bytes, L⟩ id = ⟨true, id, false, 0, []⟩) := Lib.hid (by simp [freshS])
      apply wp_region_eff _ _ (Inv.start0 _ fun _ => False) (hm := by kernel_rfl)
      case h =>
        (apply SeqF.pure; (focus (first | rfl | (go_simp; done) | (simp [Region.wanted, yielded]; done))); (focus (intro w; go_simp; with_reducible rfl)); go_simp)
        (apply SeqF.pure; (focus (first | rfl | (go_simp; done) | (simp [Region.wanted, yielded]; done))); (focus (intro w; go_simp; with_reducible rfl)); go_simp)
        (apply SeqF.pure; (focus (first | rfl | (go_simp; done) | (simp [Region.wanted, yielded]; done))); (focus (intro w; go_simp; with_reducible rfl)); go_simp)
        apply SeqF.read (v := .bool false) []
        · (first | rfl | (go_simp; done) | (simp [Region.wanted, yielded]; done))
        · intro γ' W hg hI
          have x0 := (HT.out.j.below hI.belowOf).cell.2.1
          go_simp
        go_simp
        (apply SeqF.pure; (focus (first | rfl | (go_simp; done) | (simp [Region.wanted, yielded]; done))); (focus (intro w; go_simp; with_reducible rfl)); go_simp)
        (apply SeqF.skip; (focus (first | rfl | (go_simp; done) | (simp [Region.wanted, yielded]; done))); go_simp)
        (apply SeqF.skip; (focus (first | rfl | (go_simp; done) | (simp [Region.wanted, yielded]; done))); go_simp)
        (apply SeqF.skip; (focus (first | rfl | (go_simp; done) | (simp [Region.wanted, yielded]; done))); go_simp)
        (apply SeqF.skip; (focus (first | rfl | (go_simp; done) | (simp [Region.wanted, yielded]; done))); go_simp)
        (apply SeqF.skip; (focus (first | rfl | (go_simp; done) | (simp [Region.wanted, yielded]; done))); go_simp)
        (apply SeqF.skip; (focus (first | rfl | (go_simp; done) | (simp [Region.wanted, yielded]; done))); go_simp)
        (apply SeqF.skip; (focus (first | rfl | (go_simp; done) | (simp [Region.wanted, yielded]; done))); go_simp)
        (apply SeqF.skip; (focus (first | rfl | (go_simp; done) | (simp [Region.wanted, yielded]; done))); go_simp)
        (apply SeqF.skip; (focus (first | rfl | (go_simp; done) | (simp [Region.wanted, yielded]; done))); go_simp)
        (apply SeqF.skip; (focus (first | rfl | (go_simp; done) | (simp [Region.wanted, yielded]; done))); go_simp)
        (apply SeqF.skip; (focus (first | rfl | (go_simp; done) | (simp [Region.wanted, yielded]; done))); go_simp)
        (apply SeqF.skip; (focus (first | rfl | (go_simp; done) | (simp [Region.wanted, yielded]; done))); go_simp)
        (apply SeqF.skip; (focus (first | rfl | (go_simp; done) | (simp [Region.wanted, yielded]; done))); go_simp)
        (apply SeqF.skip; (focus (first | rfl | (go_simp; done) | (simp [Region.wanted, yielded]; done))); go_simp)
        (apply SeqF.skip; (focus (first | rfl | (go_simp; done) | (simp [Region.wanted, yielded]; done))); go_simp)
        (apply SeqF.skip; (focus (first | rfl | (go_simp; done) | (simp [Region.wanted, yielded]; done))); go_simp)
        (apply SeqF.skip; (focus (first | rfl | (go_simp; done) | (simp [Region.wanted, yielded]; done))); go_simp)
        (apply SeqF.skip; (focus (first | rfl | (go_simp; done) | (simp [Region.wanted, yielded]; done))); go_simp)
        (apply SeqF.skip; (focus (first | rfl | (go_simp; done) | (simp [Region.wanted, yielded]; done))); go_simp)
        (apply SeqF.skip; (focus (first | rfl | (go_simp; done) | (simp [Region.wanted, yielded]; done))); go_simp)
        (apply SeqF.skip; (focus (first | rfl | (go_simp; done) | (simp [Region.wanted, yielded]; done))); go_simp)
        (apply SeqF.skip; (focus (first | rfl | (go_simp; done) | (simp [Region.wanted, yielded]; done))); go_simp)
        (apply SeqF.pure; (focus (first | rfl | (go_simp; done) | (simp [Region.wanted, yielded]; done))); (focus (intro w; go_simp; with_reducible rfl)); go_simp)
        (apply SeqF.pure; (focus (first | rfl | (go_simp; done) | (simp [Region.wanted, yielded]; done))); (focus (intro w; go_simp; with_reducible rfl)); go_simp)
        apply SeqF.done
        intro w9 hI9
        have hT9 := HT.out.below hI9.belowOf
        have hV9 := HV.out.below hI9.belowOf
        clear hI9 HT HV
        have HT := Lib.hid hT9
        have HV := Lib.hid hV9
        clear hT9 hV9
        go_simp
        go_wp2_with fail
        apply wp_region_eff _ _ (Inv.start0 _ fun _ => False) (hm := by kernel_rfl)
        case h =>
          (apply SeqF.pure; (focus (first | rfl | (go_simp; done) | (simp [Region.wanted, yielded]; done))); (focus (intro w; go_simp; with_reducible rfl)); go_simp)
          (apply SeqF.pure; (focus (first | rfl | (go_simp; done) | (simp [Region.wanted, yielded]; done))); (focus (intro w; go_simp; with_reducible rfl)); go_simp)
          (apply SeqF.pure; (focus (first | rfl | (go_simp; done) | (simp [Region.wanted, yielded]; done))); (focus (intro w; go_simp; with_reducible rfl)); go_simp)
          apply SeqF.read (v := .bool false) []
          · (first | rfl | (go_simp; done) | (simp [Region.wanted, yielded]; done))
          · intro γ' W hg hI
            have x0 := (HT.out.j.below hI.belowOf).cell.2.1
            go_simp
          go_simp
          (apply SeqF.pure; (focus (first | rfl | (go_simp; done) | (simp [Region.wanted, yielded]; done))); (focus (intro w; go_simp; with_reducible rfl)); go_simp)
          (apply SeqF.pure; (focus (first | rfl | (go_simp; done) | (simp [Region.wanted, yielded]; done))); (focus (intro w; go_simp; with_reducible rfl)); go_simp)
          (apply SeqF.skip; (focus (first | rfl | (go_simp; done) | (simp [Region.wanted, yielded]; done))); go_simp)
          (apply SeqF.skip; (focus (first | rfl | (go_simp; done) | (simp [Region.wanted, yielded]; done))); go_simp)
          (apply SeqF.skip; (focus (first | rfl | (go_simp; done) | (simp [Region.wanted, yielded]; done))); go_simp)
          (apply SeqF.skip; (focus (first | rfl | (go_simp; done) | (simp [Region.wanted, yielded]; done))); go_simp)
          (apply SeqF.skip; (focus (first | rfl | (go_simp; done) | (simp [Region.wanted, yielded]; done))); go_simp)
          (apply SeqF.skip; (focus (first | rfl | (go_simp; done) | (simp [Region.wanted, yielded]; done))); go_simp)
          (apply SeqF.skip; (focus (first | rfl | (go_simp; done) | (simp [Region.wanted, yielded]; done))); go_simp)
          (apply SeqF.pure; (focus (first | rfl | (go_simp; done) | (simp [Region.wanted, yielded]; done))); (focus (intro w; go_simp; with_reducible rfl)); go_simp)
          apply SeqF.done
          intro w9 hI9
          have hT9 := HT.out.below hI9.belowOf
          have HV9 := Lib.hid (HV.out.below hI9.belowOf)
          clear hI9 HT HV
          have HT := Lib.hid hT9
          clear hT9
          obtain ⟨esx, kx, hMx, -⟩ := HT.out.j.hM
          have c0 := HT.out.j.cell.1
          go_simp
          go_wp2_with (with_reducible refine wpList_clear rfl (.tmp 63) rfl rfl hMx ?_)
          intro w5 h5
          have HT5 := Lib.hid (HT.out.cleared hMx h5)
          have HV5 := Lib.hid (HV9.out.inv (h5.inv hMx) (fun b h1 h2 => (HVN.out b h1 h2).2))
          clear HT HV9 hMx h5 c0
          have HT := HT5
          have HV := HV5
          clear HT5 HV5
          go_wp2_with fail
          apply wp_region_eff _ _ HT.out.startJ (hm := by kernel_rfl)
          case h =>
            (apply SeqF.pure; (focus (first | rfl | (go_simp; done) | (simp [Region.wanted, yielded]; done))); (focus (intro w; go_simp; with_reducible rfl)); go_simp)
            (apply SeqF.pure; (focus (first | rfl | (go_simp; done) | (simp [Region.wanted, yielded]; done))); (focus (intro w; go_simp; with_reducible rfl)); go_simp)
            (apply SeqF.pure; (focus (first | rfl | (go_simp; done) | (simp [Region.wanted, yielded]; done))); (focus (intro w; go_simp; with_reducible rfl)); go_simp)
            (apply SeqF.pure; (focus (first | rfl | (go_simp; done) | (simp [Region.wanted, yielded]; done))); (focus (intro w; go_simp; with_reducible rfl)); go_simp)
            (apply SeqF.pure; (focus (first | rfl | (go_simp; done) | (simp [Region.wanted, yielded]; done))); (focus (intro w; go_simp; with_reducible rfl)); go_simp)
            apply SeqF.read (v := .int .u64 id) []
            · (first | rfl | (go_simp; done) | (simp [Region.wanted, yielded]; done))
            · intro γ' W hg hI
              have x0 : W.cell? ⟨B, 0, none⟩ = some (.int .u64 id) := (cell_of_row _ _ _ _ _ _ ((hI.far B (lt_of_heap HT.out.hB) (by have := HT.out.lt; omega)).trans HT.out.hB)).trans rfl
              go_simp
            go_simp
            (apply SeqF.pure; (focus (first | rfl | (go_simp; done) | (simp [Region.wanted, yielded]; done))); (focus (intro w; go_simp; with_reducible rfl)); go_simp)
            (apply SeqF.pure; (focus (first | rfl | (go_simp; done) | (simp [Region.wanted, yielded]; done))); (focus (intro w; go_simp; with_reducible rfl)); go_simp)
            apply SeqF.store [0] 0 J _ rfl (by simp) (fun _ => .cells (jrow M ⟨true, id0, ended, bytes, []⟩) 60 (0, 0))
            · exact fun _ _ => rfl
            · (first | rfl | (go_simp; done) | (simp [Region.wanted, yielded]; done))
            · exact fun γ' W hg hI hW => exec_st1 (i := 1) (st_bool true) rfl rfl rfl (by simp [jrow]) rfl hW
            go_simp
            (apply SeqF.pure; (focus (first | rfl | (go_simp; done) | (simp [Region.wanted, yielded]; done))); (focus (intro w; go_simp; with_reducible rfl)); go_simp)
            (apply SeqF.pure; (focus (first | rfl | (go_simp; done) | (simp [Region.wanted, yielded]; done))); (focus (intro w; go_simp; with_reducible rfl)); go_simp)
            apply SeqF.store [0] 0 J _ (Gh.set_here _ _ _) (by simp) (fun _ => .cells (jrow M ⟨true, id, ended, bytes, []⟩) 60 (0, 0))
            · exact fun _ _ => rfl
            · (first | rfl | (go_simp; done) | (simp [Region.wanted, yielded]; done))
            · exact fun γ' W hg hI hW => exec_st1 (i := 2) (st_u64 id) rfl rfl rfl (by simp [jrow]) rfl hW
            go_simp
            (apply SeqF.pure; (focus (first | rfl | (go_simp; done) | (simp [Region.wanted, yielded]; done))); (focus (intro w; go_simp; with_reducible rfl)); go_simp)
            (apply SeqF.pure; (focus (first | rfl | (go_simp; done) | (simp [Region.wanted, yielded]; done))); (focus (intro w; go_simp; with_reducible rfl)); go_simp)
            apply SeqF.store [0] 0 J _ (Gh.set_here _ _ _) (by simp) (fun _ => .cells (jrow M ⟨true, id, false, bytes, []⟩) 60 (0, 0))
            · exact fun _ _ => rfl
            · (first | rfl | (go_simp; done) | (simp [Region.wanted, yielded]; done))
            · exact fun γ' W hg hI hW => exec_st1 (i := 3) (st_bool false) rfl rfl rfl (by simp [jrow]) rfl hW
            go_simp
            (apply SeqF.pure; (focus (first | rfl | (go_simp; done) | (simp [Region.wanted, yielded]; done))); (focus (intro w; go_simp; with_reducible rfl)); go_simp)
            (apply SeqF.pure; (focus (first | rfl | (go_simp; done) | (simp [Region.wanted, yielded]; done))); (focus (intro w; go_simp; with_reducible rfl)); go_simp)
            apply SeqF.store [0] 0 J _ (Gh.set_here _ _ _) (by simp) (fun _ => .cells (jrow M ⟨true, id, false, 0, []⟩) 60 (0, 0))
            · exact fun _ _ => rfl
            · (first | rfl | (go_simp; done) | (simp [Region.wanted, yielded]; done))
            · exact fun γ' W hg hI hW => exec_st1 (i := 4) (st_int 0) rfl rfl rfl (by simp [jrow]) rfl hW
            go_simp
            apply SeqF.done
            intro w9 hI9
            have hT9 : TK w w9 J M B ⟨true, id, false, 0, []⟩ #[.int .u64 id, .int .i64 n, .bool last, v] := HT.out.invJ (s' := ⟨true, id, false, 0, []⟩) hI9 (Gh.set_here _ _ _) rfl (.inl rfl)
            have hV9 := HV.out.inv hI9 (fun b h1 h2 => (HVN.out b h1 h2).1)
            clear hI9 HT HV
            have HT := Lib.hid hT9
            have HV := Lib.hid hV9
            clear hT9 hV9
            go_simp
            obtain ⟨s1, hs1⟩ : ∃ s1, s1 = (⟨true, id, false, 0, []⟩ : JS) := ⟨_, rfl⟩
            have HID : Hid (s1.id = id) := Lib.hid (by rw [hs1])
            rw [← hs1] at HT HF
            have HS1 : Hid (JOk s1) := Lib.hid (by rw [← HF.out]; exact HS.out.fresh id)
            have HN1 : Hid (∀ q ∈ s1.L, q ∈ L) := Lib.hid (by rw [hs1]; simp)
            clear hs1
            as_aux_lemma =>
              obtain ⟨A, hA⟩ : ∃ A, w9.heap.size = A := ⟨_, rfl⟩
              have hAB : B < A := by rw [← hA]; exact lt_of_heap HT.out.hB
              have HA0 : Hid ((w9.alloc (.cells #[.int .u64 0, .int .i64 0] 62)).heap[A]? = some (.cells #[.int .u64 0, .int .i64 0] 62 (0, 0))) := Lib.hid (by rw [← hA]; exact heap_alloc_last _ _)
              have hbl : Below w9.heap.size w9 ((w9.alloc (.cells #[.int .u64 0, .int .i64 0] 62)).setRow A #[.int .u64 id, .int .i64 n]) := below_setRow (by (repeat' (first | (with_reducible exact Below.refl _ _) | (with_reducible assumption) | (with_reducible refine Below.alloc ?_ ?_ _) | (with_reducible refine below_setRow ?_ ?_ _) | (with_reducible refine bl_drew ?_) | (with_reducible refine bl_drewN ?_ _) | (with_reducible refine Below.setCell ?_ ?_ _) | (with_reducible refine bl_then ?_ ?_ hb) | (with_reducible refine bl_then ?_ ?_ hb1) | (with_reducible refine bl_then ?_ ?_ hb2) | (with_reducible refine bl_then ?_ ?_ hb3) | (with_reducible refine bl_then ?_ ?_ hb4) | (with_reducible refine bl_then ?_ ?_ hb5) | (with_reducible refine bl_then ?_ ?_ hb6) | (with_reducible refine bl_then ?_ ?_ hb7) | (with_reducible refine bl_then ?_ ?_ hb8) | (with_reducible exact Nat.le_refl _) | omega | (simp only [World.size_alloc, World.size_setCell, World.size_drew, size_setRow]; omega) | (simp; omega) | (simp; done)))) (by omega) _
              have hT1 := HT.out.below hbl
              have hV1 := HV.out.below hbl
              have hA1 : ((w9.alloc (.cells #[.int .u64 0, .int .i64 0] 62)).setRow A #[.int .u64 id, .int .i64 n]).heap[A]? = some (.cells #[.int .u64 id, .int .i64 n] 62 (0, 0)) := setRow_heap _ _ _ _ _ _ HA0.out
              have b0 := HT.out.cellB (i := 0) rfl
              have b1 := HT.out.cellB (i := 1) rfl
              clear hbl HT HV
              go_wp2_with (with_reducible refine wpList_stB (row := #[.int .u64 id, .int .i64 n]) placeInfo (by simp [Value.oneCell']) rfl (.tmp 7) (.tmp 82) rfl rfl rfl HA0.out rfl ?_)
              try rw [hA]
              generalize (w9.alloc (.cells #[.int .u64 0, .int .i64 0] 62)).setRow A #[.int .u64 id, .int .i64 n] = W1 at *
              have HT := Lib.hid hT1
              have HV := Lib.hid hV1
              have HA := Lib.hid hA1
              clear hT1 hV1 hA1 HA0 hA b0 b1
              obtain ⟨es, k, hM, hE⟩ := HT.out.j.hM
              rw [HID.out] at hE
              cases hfd : findL n s1.L with
              | some q =>
                have hbq := (HT.out.j.hP q (findL_mem hfd).1).1
                have HO : Hid ((#[.int .u64 id, .int .i64 q.n, .bool q.last, q.v] : Array Value).all (·.oneCell') = true) := Lib.hid (prow_one (id := id) hbq)
                have HX : Hid ((match findL n s1.L with | some p => Value.tuple #[p.val id, .bool true] | none => .tuple #[partV 0 0 false (.slice none 0 0), .bool false]) = .tuple #[.agg #[.int .u64 id, .int .i64 q.n, .bool q.last, q.v], .bool true]) := Lib.hid (by rw [hfd]; rfl)
                have HAD : Hid (∀ vc, addS s1 ⟨n, last, vc, bs⟩ = s1) := Lib.hid (fun vc => by simp [addS, hfd])
                clear hfd hbq
                apply wp_region_eff _ _ (Inv.start0 W1 fun _ => False) (hm := by kernel_rfl)
                case h =>
                  (apply SeqF.pure; (focus (first | rfl | (go_simp; done) | (simp [Region.wanted, yielded]; done))); (focus (intro w; go_simp; with_reducible rfl)); go_simp)
                  (apply SeqF.pure; (focus (first | rfl | (go_simp; done) | (simp [Region.wanted, yielded]; done))); (focus (intro w; go_simp; with_reducible rfl)); go_simp)
                  (apply SeqF.pure; (focus (first | rfl | (go_simp; done) | (simp [Region.wanted, yielded]; done))); (focus (intro w; go_simp; with_reducible rfl)); go_simp)
                  apply SeqF.read (v := .map (some M)) []
                  · (first | rfl | (go_simp; done) | (simp [Region.wanted, yielded]; done))
                  · intro γ' W hg hI
                    have x0 := (HT.out.j.below hI.belowOf).cell.1
                    go_simp
                  go_simp
                  apply SeqF.read (v := .agg #[.int .u64 id, .int .i64 n]) []
                  · (first | rfl | (go_simp; done) | (simp [Region.wanted, yielded]; done))
                  · exact fun γ' W hg hI => exec_load rfl rfl (run_load_blk placeInfo placeRow ((hI.far A (lt_of_heap HA.out) (fun h => h)).trans HA.out))
                  go_simp
                  apply SeqF.read (v := .tuple #[.agg #[.int .u64 id, .int .i64 q.n, .bool q.last, q.v], .bool true]) []
                  · (first | rfl | (go_simp; done) | (simp [Region.wanted, yielded]; done))
                  · intro γ' W hg hI
                    rw [← HX.out]
                    exact exec_look rfl rfl rfl ((hI.far M (lt_of_heap hM) (fun h => h)).trans hM) hE
                  go_simp
                  (apply SeqF.pure; (focus (first | rfl | (go_simp; done) | (simp [Region.wanted, yielded]; done))); (focus (intro w; go_simp; with_reducible rfl)); go_simp)
                  (apply SeqF.pure; (focus (first | rfl | (go_simp; done) | (simp [Region.wanted, yielded]; done))); (focus (intro w; go_simp; with_reducible rfl)); go_simp)
                  (apply SeqF.pure; (focus (first | rfl | (go_simp; done) | (simp [Region.wanted, yielded]; done))); (focus (intro w; go_simp; with_reducible rfl)); go_simp)
                  apply SeqF.new [] 0 (fun g => .pointer (some ⟨g, 0, none⟩)) (fun _ => .cells #[.int .u64 0, .int .i64 0, .bool false, .slice none 0 0] 33 (0, 0))
                  · intro γ' _; rfl
                  · (first | rfl | (go_simp; done) | (simp [Region.wanted, yielded]; done))
                  · intro γ' V hg hI; kernel_rfl
                  intro X hX
                  go_simp
                  apply SeqF.store [0] 0 X (.cells #[.int .u64 0, .int .i64 0, .bool false, .slice none 0 0] 33 (0, 0)) (Gh.set_here _ _ _) (by simp) (fun _ => .cells #[.int .u64 id, .int .i64 q.n, .bool q.last, q.v] 33 (0, 0))
                  · exact fun _ _ => rfl
                  · (first | rfl | (go_simp; done) | (simp [Region.wanted, yielded]; done))
                  · exact fun γ' W hg hI hW => ⟨_, exec_store rfl rfl rfl (run_store_part hW rfl rfl HO.out), only_setRow hW⟩
                  go_simp
                  (apply SeqF.pure; (focus (first | rfl | (go_simp; done) | (simp [Region.wanted, yielded]; done))); (focus (intro w; go_simp; with_reducible rfl)); go_simp)
                  apply SeqF.done
                  intro w9 hI9
                  have hT9 := HT.out.below hI9.belowOf
                  have hA9 := (hI9.far A (lt_of_heap HA.out) (fun h => h)).trans HA.out
                  have hV9 := HV.out.below hI9.belowOf
                  clear hI9 HT HA HV HX HO hM hE
                  have HT := Lib.hid hT9
                  have HA := Lib.hid hA9
                  have HV := Lib.hid hV9
                  clear hT9 hA9 hV9
                  go_simp
                  obtain ⟨s2, hs2⟩ : ∃ s2, s1 = s2 := ⟨_, rfl⟩
                  obtain ⟨vc, hvc⟩ : ∃ vc, v = vc := ⟨_, rfl⟩
                  have HAD2 : Hid (addS s1 ⟨n, last, vc, bs⟩ = s2) := Lib.hid ((HAD.out vc).trans hs2)
                  have HS2 : Hid (JOk s2) := Lib.hid (by rw [← hs2]; exact HS1.out)
                  clear HAD
                  have HAD := HAD2
                  rw [hs2] at HT
                  have HNEW : Hid (∀ q ∈ s2.L, q ∈ L ∨ ∀ b, q.v.ownBlock = some b → w.heap.size ≤ b) := Lib.hid (fun q hq => .inl (HN1.out q (by rw [hs2]; exact hq)))
                  clear hvc HAD2
                  obtain ⟨r, hr⟩ : ∃ r, wholeF s2.L 256 0 [] = r := ⟨_, rfl⟩
                  have HW := Lib.hid hr
                  clear hr
                  have hsz : w.heap.size ≤ w9.heap.size := HT.out.fr.size
                  have c0 := HT.out.j.cell.1
                  go_wp2_with fail
                  refine (whole_any J M s2 w9 HT.out.j (fun p hp => (HS2.out.part p hp).1)).mono ?_
                  rintro e w4 ⟨⟨vr, rfl, ho⟩, hb4⟩
                  rw [HW.out] at ho ⊢
                  have hT4 := HT.out.below hb4
                  clear hb4 HT c0
                  have HT := Lib.hid hT4
                  clear hT4
                  have hlt := HT.out.lt
                  have HO := Lib.hid ho
                  cases r with
                  | none =>
                    replace ho : OwB w4 w9.heap.size vr [] := ho
                    replace HO : Hid (OwB w4 w9.heap.size vr []) := HO
                    obtain ⟨A5, c5, hv5⟩ := ho.slice
                    subst hv5
                    have HE : Hid (endS s2 = s2) := Lib.hid (by simp [endS, HW.out])
                    clear ho
                    go_wp2_with fail
                    refine bodyPost_ret (v := .tuple #[.slice A5 0 c5, .bool false, .int .i64 0]) (by simp [results, Try.results8, go_sem]) rfl ⟨.slice A5 0 c5, vc, ?_, ?_, ?_, HT.out.fr, ?_⟩
                    · simp [takeR, HM.out, HST.out, errT, HF.out, HAD.out, HW.out]
                    · simp only [takeR, HM.out, HST.out, HF.out, HAD.out, HW.out]
                      exact HO.out.mono (by omega)
                    · simp only [takeS, HM.out, HST.out, HF.out, HAD.out]
                      simp only [if_true, Bool.false_eq_true, if_false, HE.out]
                      exact HT.out.j
                    · simp only [takeS, HM.out, HST.out, HF.out, HAD.out]
                      simp only [if_true, Bool.false_eq_true, if_false, HE.out]
                      exact fun q hq => (HNEW.out q hq).imp (fun h => h) (fun h b hb => by have := h b hb; omega)
                  | some acc =>
                    replace ho : OwB w4 w9.heap.size vr acc := ho
                    replace HO : Hid (OwB w4 w9.heap.size vr acc) := HO
                    obtain ⟨A5, c5, hv5⟩ := ho.slice
                    subst hv5
                    obtain ⟨es4, k4, hM4, -⟩ := HT.out.j.hM
                    have c0 := HT.out.j.cell.1
                    clear ho
                    go_wp2_with (with_reducible refine wpList_clear rfl (.tmp 123) rfl rfl hM4 ?_)
                    intro w5 h5
                    have HT5 := Lib.hid (HT.out.cleared hM4 h5)
                    have HO5 : Hid (OwB w5 w9.heap.size (.slice A5 _ c5) acc) := Lib.hid (HO.out.keep fun b h1 h2 => h5.far b (by have := (HO.out.own_blk h1).1; have := HT.out.fr.size; omega))
                    clear HT hM4 h5 c0 HO
                    have c3 := HT5.out.j.cell.2.2.2.1
                    have c4 := HT5.out.j.cell.2.2.2.2
                    have g3 := frozen_of_row w5 J 3 _ _ HT5.out.j.hJ
                    have g4 := frozen_of_row w5 J 4 _ _ HT5.out.j.hJ
                    have hT6 := HT5.out.setJ (s' := { s2 with L := [], ended := true }) (i := 3) (v := .bool true) rfl rfl (.inl rfl)
                    have HT7 := Lib.hid (hT6.setJ (s' := { s2 with L := [], ended := true, bytes := 0 }) (i := 4) (v := .int .i64 0) rfl rfl (.inl rfl))
                    have HE : Hid (endS s2 = { s2 with L := [], ended := true, bytes := 0 }) := Lib.hid (by simp [endS, HW.out])
                    have HO7 : Hid (OwB ((w5.setCell ⟨J, 3, none⟩ (.bool true)).setCell ⟨J, 4, none⟩ (.int .i64 0)) w9.heap.size (.slice A5 _ c5) acc) := Lib.hid (HO5.out.keep fun b h1 h2 => by
                      have := (HO5.out.own_blk h1).1
                      rw [heap_setCell_other _ ⟨_, _, _⟩ _ _ (by show b ≠ J; omega), heap_setCell_other _ ⟨_, _, _⟩ _ _ (by show b ≠ J; omega)])
                    clear hT6 HT5 HO5
                    go_wp2_with fail
                    refine bodyPost_ret (v := .tuple #[.slice A5 acc.length c5, .bool true, .int .i64 0]) (by simp [results, Try.results8, go_sem]) rfl ⟨.slice A5 acc.length c5, vc, ?_, ?_, ?_, HT7.out.fr, ?_⟩
                    · simp [takeR, HM.out, HST.out, errT, HF.out, HAD.out, HW.out]
                    · simp only [takeR, HM.out, HST.out, HF.out, HAD.out, HW.out]
                      exact HO7.out.mono (by omega)
                    · simp only [takeS, HM.out, HST.out, HF.out, HAD.out]
                      simp only [if_true, Bool.false_eq_true, if_false, HE.out]
                      exact HT7.out.j
                    · simp only [takeS, HM.out, HST.out, HF.out, HAD.out]
                      simp only [if_true, Bool.false_eq_true, if_false, HE.out]
                      exact fun q hq => by cases hq
                case hl => rfl
                case ho => kernel_rfl
              | none =>
                have HO : Hid ((#[.int .u64 0, .int .i64 0, .bool false, .slice none 0 0] : Array Value).all (·.oneCell') = true) := Lib.hid (by simp [Value.oneCell'])
                have HX : Hid ((match findL n s1.L with | some p => Value.tuple #[p.val id, .bool true] | none => .tuple #[partV 0 0 false (.slice none 0 0), .bool false]) = .tuple #[.agg #[.int .u64 0, .int .i64 0, .bool false, .slice none 0 0], .bool false]) := Lib.hid (by rw [hfd]; rfl)
                have HFD := Lib.hid hfd
                clear hfd
                apply wp_region_eff _ _ (Inv.start0 W1 fun _ => False) (hm := by kernel_rfl)
                case h =>
                  (apply SeqF.pure; (focus (first | rfl | (go_simp; done) | (simp [Region.wanted, yielded]; done))); (focus (intro w; go_simp; with_reducible rfl)); go_simp)
                  (apply SeqF.pure; (focus (first | rfl | (go_simp; done) | (simp [Region.wanted, yielded]; done))); (focus (intro w; go_simp; with_reducible rfl)); go_simp)
                  (apply SeqF.pure; (focus (first | rfl | (go_simp; done) | (simp [Region.wanted, yielded]; done))); (focus (intro w; go_simp; with_reducible rfl)); go_simp)
                  apply SeqF.read (v := .map (some M)) []
                  · (first | rfl | (go_simp; done) | (simp [Region.wanted, yielded]; done))
                  · intro γ' W hg hI
                    have x0 := (HT.out.j.below hI.belowOf).cell.1
                    go_simp
                  go_simp
                  apply SeqF.read (v := .agg #[.int .u64 id, .int .i64 n]) []
                  · (first | rfl | (go_simp; done) | (simp [Region.wanted, yielded]; done))
                  · exact fun γ' W hg hI => exec_load rfl rfl (run_load_blk placeInfo placeRow ((hI.far A (lt_of_heap HA.out) (fun h => h)).trans HA.out))
                  go_simp
                  apply SeqF.read (v := .tuple #[.agg #[.int .u64 0, .int .i64 0, .bool false, .slice none 0 0], .bool false]) []
                  · (first | rfl | (go_simp; done) | (simp [Region.wanted, yielded]; done))
                  · intro γ' W hg hI
                    rw [← HX.out]
                    exact exec_look rfl rfl rfl ((hI.far M (lt_of_heap hM) (fun h => h)).trans hM) hE
                  go_simp
                  (apply SeqF.pure; (focus (first | rfl | (go_simp; done) | (simp [Region.wanted, yielded]; done))); (focus (intro w; go_simp; with_reducible rfl)); go_simp)
                  (apply SeqF.pure; (focus (first | rfl | (go_simp; done) | (simp [Region.wanted, yielded]; done))); (focus (intro w; go_simp; with_reducible rfl)); go_simp)
                  (apply SeqF.pure; (focus (first | rfl | (go_simp; done) | (simp [Region.wanted, yielded]; done))); (focus (intro w; go_simp; with_reducible rfl)); go_simp)
                  apply SeqF.new [] 0 (fun g => .pointer (some ⟨g, 0, none⟩)) (fun _ => .cells #[.int .u64 0, .int .i64 0, .bool false, .slice none 0 0] 33 (0, 0))
                  · intro γ' _; rfl
                  · (first | rfl | (go_simp; done) | (simp [Region.wanted, yielded]; done))
                  · intro γ' V hg hI; kernel_rfl
                  intro X hX
                  go_simp
                  apply SeqF.store [0] 0 X (.cells #[.int .u64 0, .int .i64 0, .bool false, .slice none 0 0] 33 (0, 0)) (Gh.set_here _ _ _) (by simp) (fun _ => .cells #[.int .u64 0, .int .i64 0, .bool false, .slice none 0 0] 33 (0, 0))
                  · exact fun _ _ => rfl
                  · (first | rfl | (go_simp; done) | (simp [Region.wanted, yielded]; done))
                  · exact fun γ' W hg hI hW => ⟨_, exec_store rfl rfl rfl (run_store_part hW rfl rfl HO.out), only_setRow hW⟩
                  go_simp
                  (apply SeqF.pure; (focus (first | rfl | (go_simp; done) | (simp [Region.wanted, yielded]; done))); (focus (intro w; go_simp; with_reducible rfl)); go_simp)
                  apply SeqF.done
                  intro w9 hI9
                  have hT9 := HT.out.below hI9.belowOf
                  have hA9 := (hI9.far A (lt_of_heap HA.out) (fun h => h)).trans HA.out
                  have hV9 := HV.out.below hI9.belowOf
                  clear hI9 HT HA HV HX HO hM hE
                  have HT := Lib.hid hT9
                  have HA := Lib.hid hA9
                  have HV := Lib.hid hV9
                  clear hT9 hA9 hV9
                  go_simp
                  have b3 := HT.out.cellB (i := 3) rfl
                  go_wp2_with fail
                  refine (clone_bytes v bs w9 HV.out).mono ?_
                  rintro e wc ⟨⟨vc, rfl, ho⟩, hb⟩
                  have hTc := HT.out.below hb
                  have hAc := (hb.block A (lt_of_heap HA.out)).trans HA.out
                  have hbb : BB wc vc bs := ho.rd HV.out.ok HV.out.len
                  have hsz9 : B < w9.heap.size := lt_of_heap HT.out.hB
                  have HOwn : Hid (∀ b, vc.ownBlock = some b → w9.heap.size ≤ b) := Lib.hid (fun b h => (ho.own_blk h).1)
                  obtain ⟨A3, c3, hv3⟩ := ho.slice
                  clear hb b3 HT HA HV ho
                  have b3 := hTc.cellB (i := 3) rfl
                  have g3 := frozen_of_row wc B 3 _ _ hTc.hB
                  have hTd := hTc.setB (i := 3) (v := vc) (row' := #[.int .u64 id, .int .i64 n, .bool last, vc]) rfl
                  have hlt := hTc.lt
                  have hbd : BB (wc.setCell ⟨B, 3, none⟩ vc) vc bs := hbb.keep fun b h1 h2 h3 => heap_setCell_other _ ⟨_, _, _⟩ _ _ (by have := HOwn.out b h2; show b ≠ B; omega)
                  have hAd : (wc.setCell ⟨B, 3, none⟩ vc).heap[A]? = some (.cells #[.int .u64 id, .int .i64 n] 62 (0, 0)) := (heap_setCell_other _ ⟨_, _, _⟩ _ _ (by show A ≠ B; omega)).trans hAc
                  subst hv3
                  clear hTc hAc hbb
                  have HTd := Lib.hid hTd
                  have HAd := Lib.hid hAd
                  have HBd := Lib.hid hbd
                  clear hTd hAd hbd
                  go_wp2_with fail
                  generalize wc.setCell ⟨B, 3, none⟩ (.slice A3 bs.length c3) = W2 at *
                  obtain ⟨es2, k2, hM2, hE2⟩ := HTd.out.j.hM
                  rw [HID.out] at hE2
                  have HT := HTd
                  have HA := HAd
                  have hJM := HT.out.j.ne
                  clear HTd HAd g3 b3
                  apply wp_region_eff _ _ (Inv.start2 hM2 rfl (by rintro g o h; cases h) : Inv W2 (fun g => g = M) (gh2 (some (M, .map es2 k2)) none) W2.drew) (hm := by kernel_rfl)
                  case h =>
                    (apply SeqF.pure; (focus (first | rfl | (go_simp; done) | (simp [Region.wanted, yielded]; done))); (focus (intro w; go_simp; with_reducible rfl)); go_simp)
                    (apply SeqF.pure; (focus (first | rfl | (go_simp; done) | (simp [Region.wanted, yielded]; done))); (focus (intro w; go_simp; with_reducible rfl)); go_simp)
                    (apply SeqF.pure; (focus (first | rfl | (go_simp; done) | (simp [Region.wanted, yielded]; done))); (focus (intro w; go_simp; with_reducible rfl)); go_simp)
                    apply SeqF.read (v := .map (some M)) []
                    · (first | rfl | (go_simp; done) | (simp [Region.wanted, yielded]; done))
                    · intro γ' W hg hI
                      have x0 : W.cell? ⟨J, 0, none⟩ = some (.map (some M)) := (cell_of_row _ _ _ _ _ _ ((hI.far J (lt_of_heap HT.out.j.hJ) hJM).trans HT.out.j.hJ)).trans rfl
                      go_simp
                    go_simp
                    apply SeqF.read (v := .agg #[.int .u64 id, .int .i64 n]) []
                    · (first | rfl | (go_simp; done) | (simp [Region.wanted, yielded]; done))
                    · exact fun γ' W hg hI => exec_load rfl rfl (run_load_blk placeInfo placeRow ((hI.far A (lt_of_heap HA.out) (by omega)).trans HA.out))
                    go_simp
                    apply SeqF.read (v := .agg #[.int .u64 id, .int .i64 n, .bool last, .slice A3 bs.length c3]) []
                    · (first | rfl | (go_simp; done) | (simp [Region.wanted, yielded]; done))
                    · exact fun γ' W hg hI => exec_load rfl rfl (run_load_blk partInfo partRow ((hI.far B (lt_of_heap HT.out.hB) (by omega)).trans HT.out.hB))
                    go_simp
                    apply SeqF.store [0] 0 M (.map es2 k2) rfl (by simp) (fun _ => .map (es2.push ⟨keyP id n, HP.val id ⟨n, last, .slice A3 bs.length c3, bs⟩, k2⟩) (k2 + 1))
                    · exact fun _ _ => rfl
                    · (first | rfl | (go_simp; done) | (simp [Region.wanted, yielded]; done))
                    · exact fun γ' W hg hI hW => exec_put (p := ⟨n, last, .slice A3 bs.length c3, bs⟩) rfl rfl rfl rfl hE2 HFD.out hW
                    go_simp
                    apply SeqF.done
                    intro w9' hI9
                    have hT9 := HT.out.invM (s' := { s1 with L := s1.L ++ [⟨n, last, .slice A3 bs.length c3, bs⟩] }) hI9 (Gh.set_here _ _ _) (by
                      show Ents s1.id _ _
                      rw [HID.out, Array.toList_push]
                      exact Ents.push (p := ⟨n, last, .slice A3 bs.length c3, bs⟩) (k := k2) hE2) rfl (by
                      intro p hp
                      rcases List.mem_append.1 hp with hp | hp
                      · exact HT.out.j.hP p hp
                      · obtain rfl := List.mem_singleton.1 hp
                        exact ⟨HBd.out, fun b h1 h2 => by have := HOwn.out b h2; omega⟩) (by
                      intro p hp
                      rcases List.mem_append.1 hp with hp | hp
                      · exact HT.out.ap p hp
                      · obtain rfl := List.mem_singleton.1 hp
                        exact fun b h1 h2 => by have := HOwn.out b h2; omega)
                    have hbl2 : bs.length ≤ 1024 ∧ 0 ≤ n ∧ n < 256 := by
                      have h := HM.out
                      simp only [mayB, Bool.and_eq_true, decide_eq_true_eq] at h
                      exact ⟨h.2.2.1, h.1, h.2.1⟩
                    have hby := HS1.out.bytes
                    have hwb : IntKind.i64.wrap (s1.bytes + (bs.length : Int)) = s1.bytes + (bs.length : Int) := IntWalk.i64_in _ (by omega)
                    have HAD0 : Hid (addS s1 ⟨n, last, .slice A3 bs.length c3, bs⟩ = { s1 with L := s1.L ++ [⟨n, last, .slice A3 bs.length c3, bs⟩], bytes := s1.bytes + (bs.length : Int) }) := Lib.hid (by simp [addS, HFD.out])
                    have HNEW0 : Hid (∀ q ∈ s1.L ++ [(⟨n, last, .slice A3 bs.length c3, bs⟩ : HP)], q ∈ L ∨ ∀ b, q.v.ownBlock = some b → w.heap.size ≤ b) := Lib.hid (by
                      intro q hq
                      rcases List.mem_append.1 hq with hq | hq
                      · exact .inl (HN1.out q hq)
                      · obtain rfl := List.mem_singleton.1 hq
                        exact .inr (fun b h2 => by have := HOwn.out b h2; omega))
                    have HS2 : Hid (JOk { s1 with L := s1.L ++ [⟨n, last, .slice A3 bs.length c3, bs⟩], bytes := s1.bytes + (bs.length : Int) }) := Lib.hid (by rw [← HAD0.out]; exact HS1.out.add hbl2.1 hbl2.2.1 hbl2.2.2)
                    clear hI9 HT HA hM2 hE2 HBd HOwn hby hbl2
                    have HT := Lib.hid hT9
                    clear hT9
                    go_simp
                    go_wp2_with fail
                    apply wp_region_eff _ _ HT.out.startJ (hm := by kernel_rfl)
                    case h =>
                      (apply SeqF.pure; (focus (first | rfl | (go_simp; done) | (simp [Region.wanted, yielded]; done))); (focus (intro w; go_simp; with_reducible rfl)); go_simp)
                      (apply SeqF.pure; (focus (first | rfl | (go_simp; done) | (simp [Region.wanted, yielded]; done))); (focus (intro w; go_simp; with_reducible rfl)); go_simp)
                      (apply SeqF.pure; (focus (first | rfl | (go_simp; done) | (simp [Region.wanted, yielded]; done))); (focus (intro w; go_simp; with_reducible rfl)); go_simp)
                      apply SeqF.read (v := .int .i64 s1.bytes) [0]
                      · (first | rfl | (go_simp; done) | (simp [Region.wanted, yielded]; done))
                      · intro γ' W hg hI
                        have x0 : W.cell? ⟨J, 4, none⟩ = some (.int .i64 s1.bytes) := (cell_of_row _ _ _ _ _ _ (hI.here 0 J _ ((hg 0 (by simp)).trans rfl)).1).trans rfl
                        go_simp
                      go_simp
                      (apply SeqF.pure; (focus (first | rfl | (go_simp; done) | (simp [Region.wanted, yielded]; done))); (focus (intro w; go_simp; with_reducible rfl)); go_simp)
                      apply SeqF.read (v := .slice A3 bs.length c3) []
                      · (first | rfl | (go_simp; done) | (simp [Region.wanted, yielded]; done))
                      · intro γ' W hg hI
                        have x0 : W.cell? ⟨B, 3, none⟩ = some (.slice A3 bs.length c3) := (cell_of_row _ _ _ _ _ _ ((hI.far B (lt_of_heap HT.out.hB) (by omega)).trans HT.out.hB)).trans rfl
                        go_simp
                      go_simp
                      (apply SeqF.pure; (focus (first | rfl | (go_simp; done) | (simp [Region.wanted, yielded]; done))); (focus (intro w; go_simp; with_reducible rfl)); go_simp)
                      (apply SeqF.pure; (focus (first | rfl | (go_simp; done) | (simp [Region.wanted, yielded]; done))); (focus (intro w; go_simp; with_reducible rfl)); go_simp)
                      (apply SeqF.pure; (focus (first | rfl | (go_simp; done) | (simp [Region.wanted, yielded]; done))); (focus (intro w; go_simp; with_reducible rfl)); go_simp)
                      (apply SeqF.pure; (focus (first | rfl | (go_simp; done) | (simp [Region.wanted, yielded]; done))); (focus (intro w; go_simp; with_reducible rfl)); go_simp)
                      apply SeqF.store [0] 0 J _ rfl (by simp) (fun _ => .cells (jrow M { s1 with L := s1.L ++ [⟨n, last, .slice A3 bs.length c3, bs⟩], bytes := s1.bytes + (bs.length : Int) }) 60 (0, 0))
                      · exact fun _ _ => rfl
                      · (first | rfl | (go_simp; done) | (simp [Region.wanted, yielded]; done))
                      · exact fun γ' W hg hI hW => exec_st1 (i := 4) (st_int (s1.bytes + (bs.length : Int))) rfl rfl rfl (by simp [jrow]) rfl hW
                      go_simp
                      apply SeqF.done
                      intro w9 hI9
                      have hT9 := HT.out.invJ (s' := { s1 with L := s1.L ++ [⟨n, last, .slice A3 bs.length c3, bs⟩], bytes := s1.bytes + (bs.length : Int) }) hI9 (Gh.set_here _ _ _) rfl (.inr rfl)
                      clear hI9 HT hwb
                      have HT := Lib.hid hT9
                      clear hT9
                      go_simp
                      obtain ⟨s2, hs2⟩ : ∃ s2, ({ s1 with L := s1.L ++ [⟨n, last, .slice A3 bs.length c3, bs⟩], bytes := s1.bytes + (bs.length : Int) } : JS) = s2 := ⟨_, rfl⟩
                      obtain ⟨vc, hvc⟩ : ∃ vc, Value.slice A3 bs.length c3 = vc := ⟨_, rfl⟩
                      have HNEW : Hid (∀ q ∈ s2.L, q ∈ L ∨ ∀ b, q.v.ownBlock = some b → w.heap.size ≤ b) := Lib.hid (by rw [← hs2]; exact HNEW0.out)
                      rw [hs2] at HS2 HAD0 HT
                      have HAD : Hid (addS s1 ⟨n, last, vc, bs⟩ = s2) := Lib.hid (by rw [← hvc]; exact HAD0.out)
                      clear hs2 hvc HAD0 HNEW0
                      obtain ⟨r, hr⟩ : ∃ r, wholeF s2.L 256 0 [] = r := ⟨_, rfl⟩
                      have HW := Lib.hid hr
                      clear hr
                      have hsz : w.heap.size ≤ w9.heap.size := HT.out.fr.size
                      have c0 := HT.out.j.cell.1
                      go_wp2_with fail
                      refine (whole_any J M s2 w9 HT.out.j (fun p hp => (HS2.out.part p hp).1)).mono ?_
                      rintro e w4 ⟨⟨vr, rfl, ho⟩, hb4⟩
                      rw [HW.out] at ho ⊢
                      have hT4 := HT.out.below hb4
                      clear hb4 HT c0
                      have HT := Lib.hid hT4
                      clear hT4
                      have hlt := HT.out.lt
                      have HO := Lib.hid ho
                      cases r with
                      | none =>
                        replace ho : OwB w4 w9.heap.size vr [] := ho
                        replace HO : Hid (OwB w4 w9.heap.size vr []) := HO
                        obtain ⟨A5, c5, hv5⟩ := ho.slice
                        subst hv5
                        have HE : Hid (endS s2 = s2) := Lib.hid (by simp [endS, HW.out])
                        clear ho
                        go_wp2_with fail
                        refine bodyPost_ret (v := .tuple #[.slice A5 0 c5, .bool false, .int .i64 0]) (by simp [results, Try.results8, go_sem]) rfl ⟨.slice A5 0 c5, vc, ?_, ?_, ?_, HT.out.fr, ?_⟩
                        · simp [takeR, HM.out, HST.out, errT, HF.out, HAD.out, HW.out]
                        · simp only [takeR, HM.out, HST.out, HF.out, HAD.out, HW.out]
                          exact HO.out.mono (by omega)
                        · simp only [takeS, HM.out, HST.out, HF.out, HAD.out]
                          simp only [if_true, Bool.false_eq_true, if_false, HE.out]
                          exact HT.out.j
                        · simp only [takeS, HM.out, HST.out, HF.out, HAD.out]
                          simp only [if_true, Bool.false_eq_true, if_false, HE.out]
                          exact fun q hq => (HNEW.out q hq).imp (fun h => h) (fun h b hb => by have := h b hb; omega)
                      | some acc =>
                        replace ho : OwB w4 w9.heap.size vr acc := ho
                        replace HO : Hid (OwB w4 w9.heap.size vr acc) := HO
                        obtain ⟨A5, c5, hv5⟩ := ho.slice
                        subst hv5
                        obtain ⟨es4, k4, hM4, -⟩ := HT.out.j.hM
                        have c0 := HT.out.j.cell.1
                        clear ho
                        go_wp2_with (with_reducible refine wpList_clear rfl (.tmp 123) rfl rfl hM4 ?_)
                        intro w5 h5
                        have HT5 := Lib.hid (HT.out.cleared hM4 h5)
                        have HO5 : Hid (OwB w5 w9.heap.size (.slice A5 _ c5) acc) := Lib.hid (HO.out.keep fun b h1 h2 => h5.far b (by have := (HO.out.own_blk h1).1; have := HT.out.fr.size; omega))
                        clear HT hM4 h5 c0 HO
                        have c3 := HT5.out.j.cell.2.2.2.1
                        have c4 := HT5.out.j.cell.2.2.2.2
                        have g3 := frozen_of_row w5 J 3 _ _ HT5.out.j.hJ
                        have g4 := frozen_of_row w5 J 4 _ _ HT5.out.j.hJ
                        have hT6 := HT5.out.setJ (s' := { s2 with L := [], ended := true }) (i := 3) (v := .bool true) rfl rfl (.inl rfl)
                        have HT7 := Lib.hid (hT6.setJ (s' := { s2 with L := [], ended := true, bytes := 0 }) (i := 4) (v := .int .i64 0) rfl rfl (.inl rfl))
                        have HE : Hid (endS s2 = { s2 with L := [], ended := true, bytes := 0 }) := Lib.hid (by simp [endS, HW.out])
                        have HO7 : Hid (OwB ((w5.setCell ⟨J, 3, none⟩ (.bool true)).setCell ⟨J, 4, none⟩ (.int .i64 0)) w9.heap.size (.slice A5 _ c5) acc) := Lib.hid (HO5.out.keep fun b h1 h2 => by
                          have := (HO5.out.own_blk h1).1
                          rw [heap_setCell_other _ ⟨_, _, _⟩ _ _ (by show b ≠ J; omega), heap_setCell_other _ ⟨_, _, _⟩ _ _ (by show b ≠ J; omega)])
                        clear hT6 HT5 HO5
                        go_wp2_with fail
                        refine bodyPost_ret (v := .tuple #[.slice A5 acc.length c5, .bool true, .int .i64 0]) (by simp [results, Try.results8, go_sem]) rfl ⟨.slice A5 acc.length c5, vc, ?_, ?_, ?_, HT7.out.fr, ?_⟩
                        · simp [takeR, HM.out, HST.out, errT, HF.out, HAD.out, HW.out]
                        · simp only [takeR, HM.out, HST.out, HF.out, HAD.out, HW.out]
                          exact HO7.out.mono (by omega)
                        · simp only [takeS, HM.out, HST.out, HF.out, HAD.out]
                          simp only [if_true, Bool.false_eq_true, if_false, HE.out]
                          exact HT7.out.j
                        · simp only [takeS, HM.out, HST.out, HF.out, HAD.out]
                          simp only [if_true, Bool.false_eq_true, if_false, HE.out]
                          exact fun q hq => by cases hq
                    case hl => rfl
                    case ho => kernel_rfl
                  case hl => rfl
                  case ho => kernel_rfl
                case hl => rfl
                case ho => kernel_rfl
          case hl => rfl
          case ho => kernel_rfl
        case hl => rfl
        case ho => kernel_rfl
      case hl => rfl
      case ho => kernel_rfl
    · by_cases hlt : id < id0
      · have HST : Hid (staleS ⟨true, id0, ended, bytes, L⟩ id = true) := Lib.hid (by simp [staleS, hlt])
        apply wp_region_eff _ _ (Inv.start0 _ fun _ => False) (hm := by kernel_rfl)
        case h =>
          (apply SeqF.pure; (focus (first | rfl | (go_simp; done) | (simp [Region.wanted, yielded]; done))); (focus (intro w; go_simp; with_reducible rfl)); go_simp)
          (apply SeqF.pure; (focus (first | rfl | (go_simp; done) | (simp [Region.wanted, yielded]; done))); (focus (intro w; go_simp; with_reducible rfl)); go_simp)
          (apply SeqF.pure; (focus (first | rfl | (go_simp; done) | (simp [Region.wanted, yielded]; done))); (focus (intro w; go_simp; with_reducible rfl)); go_simp)
          apply SeqF.read (v := .bool true) []
          · (first | rfl | (go_simp; done) | (simp [Region.wanted, yielded]; done))
          · intro γ' W hg hI
            have x0 := (HT.out.j.below hI.belowOf).cell.2.1
            go_simp
          go_simp
          (apply SeqF.pure; (focus (first | rfl | (go_simp; done) | (simp [Region.wanted, yielded]; done))); (focus (intro w; go_simp; with_reducible rfl)); go_simp)
          (apply SeqF.pure; (focus (first | rfl | (go_simp; done) | (simp [Region.wanted, yielded]; done))); (focus (intro w; go_simp; with_reducible rfl)); go_simp)
          apply SeqF.read (v := .int .u64 id) []
          · (first | rfl | (go_simp; done) | (simp [Region.wanted, yielded]; done))
          · intro γ' W hg hI
            have x0 : W.cell? ⟨B, 0, none⟩ = some (.int .u64 id) := (cell_of_row _ _ _ _ _ _ (HT.out.below hI.belowOf).hB).trans rfl
            go_simp
          go_simp
          (apply SeqF.pure; (focus (first | rfl | (go_simp; done) | (simp [Region.wanted, yielded]; done))); (focus (intro w; go_simp; with_reducible rfl)); go_simp)
          (apply SeqF.pure; (focus (first | rfl | (go_simp; done) | (simp [Region.wanted, yielded]; done))); (focus (intro w; go_simp; with_reducible rfl)); go_simp)
          (apply SeqF.pure; (focus (first | rfl | (go_simp; done) | (simp [Region.wanted, yielded]; done))); (focus (intro w; go_simp; with_reducible rfl)); go_simp)
          apply SeqF.read (v := .int .u64 id0) []
          · (first | rfl | (go_simp; done) | (simp [Region.wanted, yielded]; done))
          · intro γ' W hg hI
            have x0 := (HT.out.j.below hI.belowOf).cell.2.2.1
            go_simp
          go_simp
          (apply SeqF.pure; (focus (first | rfl | (go_simp; done) | (simp [Region.wanted, yielded]; done))); (focus (intro w; go_simp; with_reducible rfl)); go_simp)
          (apply SeqF.pure; (focus (first | rfl | (go_simp; done) | (simp [Region.wanted, yielded]; done))); (focus (intro w; go_simp; with_reducible rfl)); go_simp)
          (apply SeqF.skip; (focus (first | rfl | (go_simp; done) | (simp [Region.wanted, yielded]; done))); go_simp)
          (apply SeqF.skip; (focus (first | rfl | (go_simp; done) | (simp [Region.wanted, yielded]; done))); go_simp)
          (apply SeqF.skip; (focus (first | rfl | (go_simp; done) | (simp [Region.wanted, yielded]; done))); go_simp)
          (apply SeqF.skip; (focus (first | rfl | (go_simp; done) | (simp [Region.wanted, yielded]; done))); go_simp)
          (apply SeqF.skip; (focus (first | rfl | (go_simp; done) | (simp [Region.wanted, yielded]; done))); go_simp)
          (apply SeqF.skip; (focus (first | rfl | (go_simp; done) | (simp [Region.wanted, yielded]; done))); go_simp)
          (apply SeqF.skip; (focus (first | rfl | (go_simp; done) | (simp [Region.wanted, yielded]; done))); go_simp)
          (apply SeqF.skip; (focus (first | rfl | (go_simp; done) | (simp [Region.wanted, yielded]; done))); go_simp)
          (apply SeqF.skip; (focus (first | rfl | (go_simp; done) | (simp [Region.wanted, yielded]; done))); go_simp)
          (apply SeqF.skip; (focus (first | rfl | (go_simp; done) | (simp [Region.wanted, yielded]; done))); go_simp)
          (apply SeqF.skip; (focus (first | rfl | (go_simp; done) | (simp [Region.wanted, yielded]; done))); go_simp)
          (apply SeqF.skip; (focus (first | rfl | (go_simp; done) | (simp [Region.wanted, yielded]; done))); go_simp)
          (apply SeqF.skip; (focus (first | rfl | (go_simp; done) | (simp [Region.wanted, yielded]; done))); go_simp)
          (apply SeqF.pure; (focus (first | rfl | (go_simp; done) | (simp [Region.wanted, yielded]; done))); (focus (intro w; go_simp; with_reducible rfl)); go_simp)
          (apply SeqF.pure; (focus (first | rfl | (go_simp; done) | (simp [Region.wanted, yielded]; done))); (focus (intro w; go_simp; with_reducible rfl)); go_simp)
          (apply SeqF.pure; (focus (first | rfl | (go_simp; done) | (simp [Region.wanted, yielded]; done))); (focus (intro w; go_simp; with_reducible rfl)); go_simp)
          apply SeqF.done
          intro w9 hI9
          have hT9 := HT.out.below hI9.belowOf
          have hV9 := HV.out.below hI9.belowOf
          clear hI9 HT HV
          have HT := Lib.hid hT9
          have HV := Lib.hid hV9
          clear hT9 hV9
          go_simp
          go_wp2_with fail
          refine bodyPost_ret (v := .tuple #[.slice none 0 0, .bool false, .int .i64 0]) (by simp [results, Try.results8, go_sem]) rfl ⟨.slice none 0 0, v, ?_, ?_, ?_, HT.out.fr, ?_⟩
          · simp [takeR, HM.out, HST.out, errT]
          · simp only [takeR, HM.out, HST.out]; exact OwB.nil _ _
          · simp only [takeS, HM.out, HST.out]; exact HT.out.j
          · simp only [takeS, HM.out, HST.out]; exact fun q hq => .inl hq
        case hl => rfl
        case ho => kernel_rfl
      · by_cases heq : id = id0
        · subst heq
          cases ended
          · have HST : Hid (staleS ⟨true, id, false, bytes, L⟩ id = false) := Lib.hid (by simp [staleS])
            apply wp_region_eff _ _ (Inv.start0 _ fun _ => False) (hm := by kernel_rfl)
            case h =>
              (apply SeqF.pure; (focus (first | rfl | (go_simp; done) | (simp [Region.wanted, yielded]; done))); (focus (intro w; go_simp; with_reducible rfl)); go_simp)
              (apply SeqF.pure; (focus (first | rfl | (go_simp; done) | (simp [Region.wanted, yielded]; done))); (focus (intro w; go_simp; with_reducible rfl)); go_simp)
              (apply SeqF.pure; (focus (first | rfl | (go_simp; done) | (simp [Region.wanted, yielded]; done))); (focus (intro w; go_simp; with_reducible rfl)); go_simp)
              apply SeqF.read (v := .bool true) []
              · (first | rfl | (go_simp; done) | (simp [Region.wanted, yielded]; done))
              · intro γ' W hg hI
                have x0 := (HT.out.j.below hI.belowOf).cell.2.1
                go_simp
              go_simp
              (apply SeqF.pure; (focus (first | rfl | (go_simp; done) | (simp [Region.wanted, yielded]; done))); (focus (intro w; go_simp; with_reducible rfl)); go_simp)
              (apply SeqF.pure; (focus (first | rfl | (go_simp; done) | (simp [Region.wanted, yielded]; done))); (focus (intro w; go_simp; with_reducible rfl)); go_simp)
              apply SeqF.read (v := .int .u64 id) []
              · (first | rfl | (go_simp; done) | (simp [Region.wanted, yielded]; done))
              · intro γ' W hg hI
                have x0 : W.cell? ⟨B, 0, none⟩ = some (.int .u64 id) := (cell_of_row _ _ _ _ _ _ (HT.out.below hI.belowOf).hB).trans rfl
                go_simp
              go_simp
              (apply SeqF.pure; (focus (first | rfl | (go_simp; done) | (simp [Region.wanted, yielded]; done))); (focus (intro w; go_simp; with_reducible rfl)); go_simp)
              (apply SeqF.pure; (focus (first | rfl | (go_simp; done) | (simp [Region.wanted, yielded]; done))); (focus (intro w; go_simp; with_reducible rfl)); go_simp)
              (apply SeqF.pure; (focus (first | rfl | (go_simp; done) | (simp [Region.wanted, yielded]; done))); (focus (intro w; go_simp; with_reducible rfl)); go_simp)
              apply SeqF.read (v := .int .u64 id) []
              · (first | rfl | (go_simp; done) | (simp [Region.wanted, yielded]; done))
              · intro γ' W hg hI
                have x0 := (HT.out.j.below hI.belowOf).cell.2.2.1
                go_simp
              go_simp
              (apply SeqF.pure; (focus (first | rfl | (go_simp; done) | (simp [Region.wanted, yielded]; done))); (focus (intro w; go_simp; with_reducible rfl)); go_simp)
              (apply SeqF.pure; (focus (first | rfl | (go_simp; done) | (simp [Region.wanted, yielded]; done))); (focus (intro w; go_simp; with_reducible rfl)); go_simp)
              (apply SeqF.pure; (focus (first | rfl | (go_simp; done) | (simp [Region.wanted, yielded]; done))); (focus (intro w; go_simp; with_reducible rfl)); go_simp)
              apply SeqF.read (v := .int .u64 id) []
              · (first | rfl | (go_simp; done) | (simp [Region.wanted, yielded]; done))
              · intro γ' W hg hI
                have x0 : W.cell? ⟨B, 0, none⟩ = some (.int .u64 id) := (cell_of_row _ _ _ _ _ _ (HT.out.below hI.belowOf).hB).trans rfl
                go_simp
              go_simp
              (apply SeqF.pure; (focus (first | rfl | (go_simp; done) | (simp [Region.wanted, yielded]; done))); (focus (intro w; go_simp; with_reducible rfl)); go_simp)
              (apply SeqF.pure; (focus (first | rfl | (go_simp; done) | (simp [Region.wanted, yielded]; done))); (focus (intro w; go_simp; with_reducible rfl)); go_simp)
              (apply SeqF.pure; (focus (first | rfl | (go_simp; done) | (simp [Region.wanted, yielded]; done))); (focus (intro w; go_simp; with_reducible rfl)); go_simp)
              apply SeqF.read (v := .int .u64 id) []
              · (first | rfl | (go_simp; done) | (simp [Region.wanted, yielded]; done))
              · intro γ' W hg hI
                have x0 := (HT.out.j.below hI.belowOf).cell.2.2.1
                go_simp
              go_simp
              (apply SeqF.pure; (focus (first | rfl | (go_simp; done) | (simp [Region.wanted, yielded]; done))); (focus (intro w; go_simp; with_reducible rfl)); go_simp)
              (apply SeqF.pure; (focus (first | rfl | (go_simp; done) | (simp [Region.wanted, yielded]; done))); (focus (intro w; go_simp; with_reducible rfl)); go_simp)
              (apply SeqF.pure; (focus (first | rfl | (go_simp; done) | (simp [Region.wanted, yielded]; done))); (focus (intro w; go_simp; with_reducible rfl)); go_simp)
              (apply SeqF.pure; (focus (first | rfl | (go_simp; done) | (simp [Region.wanted, yielded]; done))); (focus (intro w; go_simp; with_reducible rfl)); go_simp)
              (apply SeqF.pure; (focus (first | rfl | (go_simp; done) | (simp [Region.wanted, yielded]; done))); (focus (intro w; go_simp; with_reducible rfl)); go_simp)
              apply SeqF.read (v := .bool false) []
              · (first | rfl | (go_simp; done) | (simp [Region.wanted, yielded]; done))
              · intro γ' W hg hI
                have x0 := (HT.out.j.below hI.belowOf).cell.2.2.2.1
                go_simp
              go_simp
              (apply SeqF.pure; (focus (first | rfl | (go_simp; done) | (simp [Region.wanted, yielded]; done))); (focus (intro w; go_simp; with_reducible rfl)); go_simp)
              (apply SeqF.pure; (focus (first | rfl | (go_simp; done) | (simp [Region.wanted, yielded]; done))); (focus (intro w; go_simp; with_reducible rfl)); go_simp)
              (apply SeqF.pure; (focus (first | rfl | (go_simp; done) | (simp [Region.wanted, yielded]; done))); (focus (intro w; go_simp; with_reducible rfl)); go_simp)
              (apply SeqF.pure; (focus (first | rfl | (go_simp; done) | (simp [Region.wanted, yielded]; done))); (focus (intro w; go_simp; with_reducible rfl)); go_simp)
              apply SeqF.done
              intro w9 hI9
              have hT9 := HT.out.below hI9.belowOf
              have hV9 := HV.out.below hI9.belowOf
              clear hI9 HT HV
              have HT := Lib.hid hT9
              have HV := Lib.hid hV9
              clear hT9 hV9
              go_simp
              go_wp2_with fail
              apply wp_region_eff _ _ (Inv.start0 _ fun _ => False) (hm := by kernel_rfl)
              case h =>
                (apply SeqF.pure; (focus (first | rfl | (go_simp; done) | (simp [Region.wanted, yielded]; done))); (focus (intro w; go_simp; with_reducible rfl)); go_simp)
                (apply SeqF.pure; (focus (first | rfl | (go_simp; done) | (simp [Region.wanted, yielded]; done))); (focus (intro w; go_simp; with_reducible rfl)); go_simp)
                (apply SeqF.pure; (focus (first | rfl | (go_simp; done) | (simp [Region.wanted, yielded]; done))); (focus (intro w; go_simp; with_reducible rfl)); go_simp)
                apply SeqF.read (v := .bool true) []
                · (first | rfl | (go_simp; done) | (simp [Region.wanted, yielded]; done))
                · intro γ' W hg hI
                  have x0 := (HT.out.j.below hI.belowOf).cell.2.1
                  go_simp
                go_simp
                (apply SeqF.pure; (focus (first | rfl | (go_simp; done) | (simp [Region.wanted, yielded]; done))); (focus (intro w; go_simp; with_reducible rfl)); go_simp)
                (apply SeqF.pure; (focus (first | rfl | (go_simp; done) | (simp [Region.wanted, yielded]; done))); (focus (intro w; go_simp; with_reducible rfl)); go_simp)
                (apply SeqF.pure; (focus (first | rfl | (go_simp; done) | (simp [Region.wanted, yielded]; done))); (focus (intro w; go_simp; with_reducible rfl)); go_simp)
                apply SeqF.read (v := .int .u64 id) []
                · (first | rfl | (go_simp; done) | (simp [Region.wanted, yielded]; done))
                · intro γ' W hg hI
                  have x0 : W.cell? ⟨B, 0, none⟩ = some (.int .u64 id) := (cell_of_row _ _ _ _ _ _ (HT.out.below hI.belowOf).hB).trans rfl
                  go_simp
                go_simp
                (apply SeqF.pure; (focus (first | rfl | (go_simp; done) | (simp [Region.wanted, yielded]; done))); (focus (intro w; go_simp; with_reducible rfl)); go_simp)
                (apply SeqF.pure; (focus (first | rfl | (go_simp; done) | (simp [Region.wanted, yielded]; done))); (focus (intro w; go_simp; with_reducible rfl)); go_simp)
                (apply SeqF.pure; (focus (first | rfl | (go_simp; done) | (simp [Region.wanted, yielded]; done))); (focus (intro w; go_simp; with_reducible rfl)); go_simp)
                apply SeqF.read (v := .int .u64 id) []
                · (first | rfl | (go_simp; done) | (simp [Region.wanted, yielded]; done))
                · intro γ' W hg hI
                  have x0 := (HT.out.j.below hI.belowOf).cell.2.2.1
                  go_simp
                go_simp
                (apply SeqF.pure; (focus (first | rfl | (go_simp; done) | (simp [Region.wanted, yielded]; done))); (focus (intro w; go_simp; with_reducible rfl)); go_simp)
                (apply SeqF.pure; (focus (first | rfl | (go_simp; done) | (simp [Region.wanted, yielded]; done))); (focus (intro w; go_simp; with_reducible rfl)); go_simp)
                apply SeqF.done
                intro w9 hI9
                have hT9 := HT.out.below hI9.belowOf
                have HV9 := Lib.hid (HV.out.below hI9.belowOf)
                clear hI9 HT HV
                have HT := Lib.hid hT9
                have HV := HV9
                clear hT9 HV9
                go_simp
                obtain ⟨s1, hs1⟩ : ∃ s1, s1 = (⟨true, id, false, bytes, L⟩ : JS) := ⟨_, rfl⟩
                have HID : Hid (s1.id = id) := Lib.hid (by rw [hs1])
                rw [← hs1] at HT
                have HF : Hid (freshS ⟨true, id, false, bytes, L⟩ id = s1) := Lib.hid (by rw [hs1]; simp [freshS])
                have HS1 : Hid (JOk s1) := Lib.hid (by rw [← HF.out]; exact HS.out.fresh id)
                have HN1 : Hid (∀ q ∈ s1.L, q ∈ L) := Lib.hid (by rw [hs1]; exact fun q hq => hq)
                clear hs1
                as_aux_lemma =>
                  obtain ⟨A, hA⟩ : ∃ A, w9.heap.size = A := ⟨_, rfl⟩
                  have hAB : B < A := by rw [← hA]; exact lt_of_heap HT.out.hB
                  have HA0 : Hid ((w9.alloc (.cells #[.int .u64 0, .int .i64 0] 62)).heap[A]? = some (.cells #[.int .u64 0, .int .i64 0] 62 (0, 0))) := Lib.hid (by rw [← hA]; exact heap_alloc_last _ _)
                  have hbl : Below w9.heap.size w9 ((w9.alloc (.cells #[.int .u64 0, .int .i64 0] 62)).setRow A #[.int .u64 id, .int .i64 n]) := below_setRow (by (repeat' (first | (with_reducible exact Below.refl _ _) | (with_reducible assumption) | (with_reducible refine Below.alloc ?_ ?_ _) | (with_reducible refine below_setRow ?_ ?_ _) | (with_reducible refine bl_drew ?_) | (with_reducible refine bl_drewN ?_ _) | (with_reducible refine Below.setCell ?_ ?_ _) | (with_reducible refine bl_then ?_ ?_ hb) | (with_reducible refine bl_then ?_ ?_ hb1) | (with_reducible refine bl_then ?_ ?_ hb2) | (with_reducible refine bl_then ?_ ?_ hb3) | (with_reducible refine bl_then ?_ ?_ hb4) | (with_reducible refine bl_then ?_ ?_ hb5) | (with_reducible refine bl_then ?_ ?_ hb6) | (with_reducible refine bl_then ?_ ?_ hb7) | (with_reducible refine bl_then ?_ ?_ hb8) | (with_reducible exact Nat.le_refl _) | omega | (simp only [World.size_alloc, World.size_setCell, World.size_drew, size_setRow]; omega) | (simp; omega) | (simp; done)))) (by omega) _
                  have hT1 := HT.out.below hbl
                  have hV1 := HV.out.below hbl
                  have hA1 : ((w9.alloc (.cells #[.int .u64 0, .int .i64 0] 62)).setRow A #[.int .u64 id, .int .i64 n]).heap[A]? = some (.cells #[.int .u64 id, .int .i64 n] 62 (0, 0)) := setRow_heap _ _ _ _ _ _ HA0.out
                  have b0 := HT.out.cellB (i := 0) rfl
                  have b1 := HT.out.cellB (i := 1) rfl
                  clear hbl HT HV
                  go_wp2_with (with_reducible refine wpList_stB (row := #[.int .u64 id, .int .i64 n]) placeInfo (by simp [Value.oneCell']) rfl (.tmp 7) (.tmp 82) rfl rfl rfl HA0.out rfl ?_)
                  try rw [hA]
                  generalize (w9.alloc (.cells #[.int .u64 0, .int .i64 0] 62)).setRow A #[.int .u64 id, .int .i64 n] = W1 at *
                  have HT := Lib.hid hT1
                  have HV := Lib.hid hV1
                  have HA := Lib.hid hA1
                  clear hT1 hV1 hA1 HA0 hA b0 b1
                  obtain ⟨es, k, hM, hE⟩ := HT.out.j.hM
                  rw [HID.out] at hE
                  cases hfd : findL n s1.L with
                  | some q =>
                    have hbq := (HT.out.j.hP q (findL_mem hfd).1).1
                    have HO : Hid ((#[.int .u64 id, .int .i64 q.n, .bool q.last, q.v] : Array Value).all (·.oneCell') = true) := Lib.hid (prow_one (id := id) hbq)
                    have HX : Hid ((match findL n s1.L with | some p => Value.tuple #[p.val id, .bool true] | none => .tuple #[partV 0 0 false (.slice none 0 0), .bool false]) = .tuple #[.agg #[.int .u64 id, .int .i64 q.n, .bool q.last, q.v], .bool true]) := Lib.hid (by rw [hfd]; rfl)
                    have HAD : Hid (∀ vc, addS s1 ⟨n, last, vc, bs⟩ = s1) := Lib.hid (fun vc => by simp [addS, hfd])
                    clear hfd hbq
                    apply wp_region_eff _ _ (Inv.start0 W1 fun _ => False) (hm := by kernel_rfl)
                    case h =>
                      (apply SeqF.pure; (focus (first | rfl | (go_simp; done) | (simp [Region.wanted, yielded]; done))); (focus (intro w; go_simp; with_reducible rfl)); go_simp)
                      (apply SeqF.pure; (focus (first | rfl | (go_simp; done) | (simp [Region.wanted, yielded]; done))); (focus (intro w; go_simp; with_reducible rfl)); go_simp)
                      (apply SeqF.pure; (focus (first | rfl | (go_simp; done) | (simp [Region.wanted, yielded]; done))); (focus (intro w; go_simp; with_reducible rfl)); go_simp)
                      apply SeqF.read (v := .map (some M)) []
                      · (first | rfl | (go_simp; done) | (simp [Region.wanted, yielded]; done))
                      · intro γ' W hg hI
                        have x0 := (HT.out.j.below hI.belowOf).cell.1
                        go_simp
                      go_simp
                      apply SeqF.read (v := .agg #[.int .u64 id, .int .i64 n]) []
                      · (first | rfl | (go_simp; done) | (simp [Region.wanted, yielded]; done))
                      · exact fun γ' W hg hI => exec_load rfl rfl (run_load_blk placeInfo placeRow ((hI.far A (lt_of_heap HA.out) (fun h => h)).trans HA.out))
                      go_simp
                      apply SeqF.read (v := .tuple #[.agg #[.int .u64 id, .int .i64 q.n, .bool q.last, q.v], .bool true]) []
                      · (first | rfl | (go_simp; done) | (simp [Region.wanted, yielded]; done))
                      · intro γ' W hg hI
                        rw [← HX.out]
                        exact exec_look rfl rfl rfl ((hI.far M (lt_of_heap hM) (fun h => h)).trans hM) hE
                      go_simp
                      (apply SeqF.pure; (focus (first | rfl | (go_simp; done) | (simp [Region.wanted, yielded]; done))); (focus (intro w; go_simp; with_reducible rfl)); go_simp)
                      (apply SeqF.pure; (focus (first | rfl | (go_simp; done) | (simp [Region.wanted, yielded]; done))); (focus (intro w; go_simp; with_reducible rfl)); go_simp)
                      (apply SeqF.pure; (focus (first | rfl | (go_simp; done) | (simp [Region.wanted, yielded]; done))); (focus (intro w; go_simp; with_reducible rfl)); go_simp)
                      apply SeqF.new [] 0 (fun g => .pointer (some ⟨g, 0, none⟩)) (fun _ => .cells #[.int .u64 0, .int .i64 0, .bool false, .slice none 0 0] 33 (0, 0))
                      · intro γ' _; rfl
                      · (first | rfl | (go_simp; done) | (simp [Region.wanted, yielded]; done))
                      · intro γ' V hg hI; kernel_rfl
                      intro X hX
                      go_simp
                      apply SeqF.store [0] 0 X (.cells #[.int .u64 0, .int .i64 0, .bool false, .slice none 0 0] 33 (0, 0)) (Gh.set_here _ _ _) (by simp) (fun _ => .cells #[.int .u64 id, .int .i64 q.n, .bool q.last, q.v] 33 (0, 0))
                      · exact fun _ _ => rfl
                      · (first | rfl | (go_simp; done) | (simp [Region.wanted, yielded]; done))
                      · exact fun γ' W hg hI hW => ⟨_, exec_store rfl rfl rfl (run_store_part hW rfl rfl HO.out), only_setRow hW⟩
                      go_simp
                      (apply SeqF.pure; (focus (first | rfl | (go_simp; done) | (simp [Region.wanted, yielded]; done))); (focus (intro w; go_simp; with_reducible rfl)); go_simp)
                      apply SeqF.done
                      intro w9 hI9
                      have hT9 := HT.out.below hI9.belowOf
                      have hA9 := (hI9.far A (lt_of_heap HA.out) (fun h => h)).trans HA.out
                      have hV9 := HV.out.below hI9.belowOf
                      clear hI9 HT HA HV HX HO hM hE
                      have HT := Lib.hid hT9
                      have HA := Lib.hid hA9
                      have HV := Lib.hid hV9
                      clear hT9 hA9 hV9
                      go_simp
                      obtain ⟨s2, hs2⟩ : ∃ s2, s1 = s2 := ⟨_, rfl⟩
                      obtain ⟨vc, hvc⟩ : ∃ vc, v = vc := ⟨_, rfl⟩
                      have HAD2 : Hid (addS s1 ⟨n, last, vc, bs⟩ = s2) := Lib.hid ((HAD.out vc).trans hs2)
                      have HS2 : Hid (JOk s2) := Lib.hid (by rw [← hs2]; exact HS1.out)
                      clear HAD
                      have HAD := HAD2
                      rw [hs2] at HT
                      have HNEW : Hid (∀ q ∈ s2.L, q ∈ L ∨ ∀ b, q.v.ownBlock = some b → w.heap.size ≤ b) := Lib.hid (fun q hq => .inl (HN1.out q (by rw [hs2]; exact hq)))
                      clear hvc HAD2
                      obtain ⟨r, hr⟩ : ∃ r, wholeF s2.L 256 0 [] = r := ⟨_, rfl⟩
                      have HW := Lib.hid hr
                      clear hr
                      have hsz : w.heap.size ≤ w9.heap.size := HT.out.fr.size
                      have c0 := HT.out.j.cell.1
                      go_wp2_with fail
                      refine (whole_any J M s2 w9 HT.out.j (fun p hp => (HS2.out.part p hp).1)).mono ?_
                      rintro e w4 ⟨⟨vr, rfl, ho⟩, hb4⟩
                      rw [HW.out] at ho ⊢
                      have hT4 := HT.out.below hb4
                      clear hb4 HT c0
                      have HT := Lib.hid hT4
                      clear hT4
                      have hlt := HT.out.lt
                      have HO := Lib.hid ho
                      cases r with
                      | none =>
                        replace ho : OwB w4 w9.heap.size vr [] := ho
                        replace HO : Hid (OwB w4 w9.heap.size vr []) := HO
                        obtain ⟨A5, c5, hv5⟩ := ho.slice
                        subst hv5
                        have HE : Hid (endS s2 = s2) := Lib.hid (by simp [endS, HW.out])
                        clear ho
                        go_wp2_with fail
                        refine bodyPost_ret (v := .tuple #[.slice A5 0 c5, .bool false, .int .i64 0]) (by simp [results, Try.results8, go_sem]) rfl ⟨.slice A5 0 c5, vc, ?_, ?_, ?_, HT.out.fr, ?_⟩
                        · simp [takeR, HM.out, HST.out, errT, HF.out, HAD.out, HW.out]
                        · simp only [takeR, HM.out, HST.out, HF.out, HAD.out, HW.out]
                          exact HO.out.mono (by omega)
                        · simp only [takeS, HM.out, HST.out, HF.out, HAD.out]
                          simp only [if_true, Bool.false_eq_true, if_false, HE.out]
                          exact HT.out.j
                        · simp only [takeS, HM.out, HST.out, HF.out, HAD.out]
                          simp only [if_true, Bool.false_eq_true, if_false, HE.out]
                          exact fun q hq => (HNEW.out q hq).imp (fun h => h) (fun h b hb => by have := h b hb; omega)
                      | some acc =>
                        replace ho : OwB w4 w9.heap.size vr acc := ho
                        replace HO : Hid (OwB w4 w9.heap.size vr acc) := HO
                        obtain ⟨A5, c5, hv5⟩ := ho.slice
                        subst hv5
                        obtain ⟨es4, k4, hM4, -⟩ := HT.out.j.hM
                        have c0 := HT.out.j.cell.1
                        clear ho
                        go_wp2_with (with_reducible refine wpList_clear rfl (.tmp 123) rfl rfl hM4 ?_)
                        intro w5 h5
                        have HT5 := Lib.hid (HT.out.cleared hM4 h5)
                        have HO5 : Hid (OwB w5 w9.heap.size (.slice A5 _ c5) acc) := Lib.hid (HO.out.keep fun b h1 h2 => h5.far b (by have := (HO.out.own_blk h1).1; have := HT.out.fr.size; omega))
                        clear HT hM4 h5 c0 HO
                        have c3 := HT5.out.j.cell.2.2.2.1
                        have c4 := HT5.out.j.cell.2.2.2.2
                        have g3 := frozen_of_row w5 J 3 _ _ HT5.out.j.hJ
                        have g4 := frozen_of_row w5 J 4 _ _ HT5.out.j.hJ
                        have hT6 := HT5.out.setJ (s' := { s2 with L := [], ended := true }) (i := 3) (v := .bool true) rfl rfl (.inl rfl)
                        have HT7 := Lib.hid (hT6.setJ (s' := { s2 with L := [], ended := true, bytes := 0 }) (i := 4) (v := .int .i64 0) rfl rfl (.inl rfl))
                        have HE : Hid (endS s2 = { s2 with L := [], ended := true, bytes := 0 }) := Lib.hid (by simp [endS, HW.out])
                        have HO7 : Hid (OwB ((w5.setCell ⟨J, 3, none⟩ (.bool true)).setCell ⟨J, 4, none⟩ (.int .i64 0)) w9.heap.size (.slice A5 _ c5) acc) := Lib.hid (HO5.out.keep fun b h1 h2 => by
                          have := (HO5.out.own_blk h1).1
                          rw [heap_setCell_other _ ⟨_, _, _⟩ _ _ (by show b ≠ J; omega), heap_setCell_other _ ⟨_, _, _⟩ _ _ (by show b ≠ J; omega)])
                        clear hT6 HT5 HO5
                        go_wp2_with fail
                        refine bodyPost_ret (v := .tuple #[.slice A5 acc.length c5, .bool true, .int .i64 0]) (by simp [results, Try.results8, go_sem]) rfl ⟨.slice A5 acc.length c5, vc, ?_, ?_, ?_, HT7.out.fr, ?_⟩
                        · simp [takeR, HM.out, HST.out, errT, HF.out, HAD.out, HW.out]
                        · simp only [takeR, HM.out, HST.out, HF.out, HAD.out, HW.out]
                          exact HO7.out.mono (by omega)
                        · simp only [takeS, HM.out, HST.out, HF.out, HAD.out]
                          simp only [if_true, Bool.false_eq_true, if_false, HE.out]
                          exact HT7.out.j
                        · simp only [takeS, HM.out, HST.out, HF.out, HAD.out]
                          simp only [if_true, Bool.false_eq_true, if_false, HE.out]
                          exact fun q hq => by cases hq
                    case hl => rfl
                    case ho => kernel_rfl
                  | none =>
                    have HO : Hid ((#[.int .u64 0, .int .i64 0, .bool false, .slice none 0 0] : Array Value).all (·.oneCell') = true) := Lib.hid (by simp [Value.oneCell'])
                    have HX : Hid ((match findL n s1.L with | some p => Value.tuple #[p.val id, .bool true] | none => .tuple #[partV 0 0 false (.slice none 0 0), .bool false]) = .tuple #[.agg #[.int .u64 0, .int .i64 0, .bool false, .slice none 0 0], .bool false]) := Lib.hid (by rw [hfd]; rfl)
                    have HFD := Lib.hid hfd
                    clear hfd
                    apply wp_region_eff _ _ (Inv.start0 W1 fun _ => False) (hm := by kernel_rfl)
                    case h =>
                      (apply SeqF.pure; (focus (first | rfl | (go_simp; done) | (simp [Region.wanted, yielded]; done))); (focus (intro w; go_simp; with_reducible rfl)); go_simp)
                      (apply SeqF.pure; (focus (first | rfl | (go_simp; done) | (simp [Region.wanted, yielded]; done))); (focus (intro w; go_simp; with_reducible rfl)); go_simp)
                      (apply SeqF.pure; (focus (first | rfl | (go_simp; done) | (simp [Region.wanted, yielded]; done))); (focus (intro w; go_simp; with_reducible rfl)); go_simp)
                      apply SeqF.read (v := .map (some M)) []
                      · (first | rfl | (go_simp; done) | (simp [Region.wanted, yielded]; done))
                      · intro γ' W hg hI
                        have x0 := (HT.out.j.below hI.belowOf).cell.1
                        go_simp
                      go_simp
                      apply SeqF.read (v := .agg #[.int .u64 id, .int .i64 n]) []
                      · (first | rfl | (go_simp; done) | (simp [Region.wanted, yielded]; done))
                      · exact fun γ' W hg hI => exec_load rfl rfl (run_load_blk placeInfo placeRow ((hI.far A (lt_of_heap HA.out) (fun h => h)).trans HA.out))
                      go_simp
                      apply SeqF.read (v := .tuple #[.agg #[.int .u64 0, .int .i64 0, .bool false, .slice none 0 0], .bool false]) []
                      · (first | rfl | (go_simp; done) | (simp [Region.wanted, yielded]; done))
                      · intro γ' W hg hI
                        rw [← HX.out]
                        exact exec_look rfl rfl rfl ((hI.far M (lt_of_heap hM) (fun h => h)).trans hM) hE
                      go_simp
                      (apply SeqF.pure; (focus (first | rfl | (go_simp; done) | (simp [Region.wanted, yielded]; done))); (focus (intro w; go_simp; with_reducible rfl)); go_simp)
                      (apply SeqF.pure; (focus (first | rfl | (go_simp; done) | (simp [Region.wanted, yielded]; done))); (focus (intro w; go_simp; with_reducible rfl)); go_simp)
                      (apply SeqF.pure; (focus (first | rfl | (go_simp; done) | (simp [Region.wanted, yielded]; done))); (focus (intro w; go_simp; with_reducible rfl)); go_simp)
                      apply SeqF.new [] 0 (fun g => .pointer (some ⟨g, 0, none⟩)) (fun _ => .cells #[.int .u64 0, .int .i64 0, .bool false, .slice none 0 0] 33 (0, 0))
                      · intro γ' _; rfl
                      · (first | rfl | (go_simp; done) | (simp [Region.wanted, yielded]; done))
                      · intro γ' V hg hI; kernel_rfl
                      intro X hX
                      go_simp
                      apply SeqF.store [0] 0 X (.cells #[.int .u64 0, .int .i64 0, .bool false, .slice none 0 0] 33 (0, 0)) (Gh.set_here _ _ _) (by simp) (fun _ => .cells #[.int .u64 0, .int .i64 0, .bool false, .slice none 0 0] 33 (0, 0))
                      · exact fun _ _ => rfl
                      · (first | rfl | (go_simp; done) | (simp [Region.wanted, yielded]; done))
                      · exact fun γ' W hg hI hW => ⟨_, exec_store rfl rfl rfl (run_store_part hW rfl rfl HO.out), only_setRow hW⟩
                      go_simp
                      (apply SeqF.pure; (focus (first | rfl | (go_simp; done) | (simp [Region.wanted, yielded]; done))); (focus (intro w; go_simp; with_reducible rfl)); go_simp)
                      apply SeqF.done
                      intro w9 hI9
                      have hT9 := HT.out.below hI9.belowOf
                      have hA9 := (hI9.far A (lt_of_heap HA.out) (fun h => h)).trans HA.out
                      have hV9 := HV.out.below hI9.belowOf
                      clear hI9 HT HA HV HX HO hM hE
                      have HT := Lib.hid hT9
                      have HA := Lib.hid hA9
                      have HV := Lib.hid hV9
                      clear hT9 hA9 hV9
                      go_simp
                      have b3 := HT.out.cellB (i := 3) rfl
                      go_wp2_with fail
                      refine (clone_bytes v bs w9 HV.out).mono ?_
                      rintro e wc ⟨⟨vc, rfl, ho⟩, hb⟩
                      have hTc := HT.out.below hb
                      have hAc := (hb.block A (lt_of_heap HA.out)).trans HA.out
                      have hbb : BB wc vc bs := ho.rd HV.out.ok HV.out.len
                      have hsz9 : B < w9.heap.size := lt_of_heap HT.out.hB
                      have HOwn : Hid (∀ b, vc.ownBlock = some b → w9.heap.size ≤ b) := Lib.hid (fun b h => (ho.own_blk h).1)
                      obtain ⟨A3, c3, hv3⟩ := ho.slice
                      clear hb b3 HT HA HV ho
                      have b3 := hTc.cellB (i := 3) rfl
                      have g3 := frozen_of_row wc B 3 _ _ hTc.hB
                      have hTd := hTc.setB (i := 3) (v := vc) (row' := #[.int .u64 id, .int .i64 n, .bool last, vc]) rfl
                      have hlt := hTc.lt
                      have hbd : BB (wc.setCell ⟨B, 3, none⟩ vc) vc bs := hbb.keep fun b h1 h2 h3 => heap_setCell_other _ ⟨_, _, _⟩ _ _ (by have := HOwn.out b h2; show b ≠ B; omega)
                      have hAd : (wc.setCell ⟨B, 3, none⟩ vc).heap[A]? = some (.cells #[.int .u64 id, .int .i64 n] 62 (0, 0)) := (heap_setCell_other _ ⟨_, _, _⟩ _ _ (by show A ≠ B; omega)).trans hAc
                      subst hv3
                      clear hTc hAc hbb
                      have HTd := Lib.hid hTd
                      have HAd := Lib.hid hAd
                      have HBd := Lib.hid hbd
                      clear hTd hAd hbd
                      go_wp2_with fail
                      generalize wc.setCell ⟨B, 3, none⟩ (.slice A3 bs.length c3) = W2 at *
                      obtain ⟨es2, k2, hM2, hE2⟩ := HTd.out.j.hM
                      rw [HID.out] at hE2
                      have HT := HTd
                      have HA := HAd
                      have hJM := HT.out.j.ne
                      clear HTd HAd g3 b3
                      apply wp_region_eff _ _ (Inv.start2 hM2 rfl (by rintro g o h; cases h) : Inv W2 (fun g => g = M) (gh2 (some (M, .map es2 k2)) none) W2.drew) (hm := by kernel_rfl)
                      case h =>
                        (apply SeqF.pure; (focus (first | rfl | (go_simp; done) | (simp [Region.wanted, yielded]; done))); (focus (intro w; go_simp; with_reducible rfl)); go_simp)
                        (apply SeqF.pure; (focus (first | rfl | (go_simp; done) | (simp [Region.wanted, yielded]; done))); (focus (intro w; go_simp; with_reducible rfl)); go_simp)
                        (apply SeqF.pure; (focus (first | rfl | (go_simp; done) | (simp [Region.wanted, yielded]; done))); (focus (intro w; go_simp; with_reducible rfl)); go_simp)
                        apply SeqF.read (v := .map (some M)) []
                        · (first | rfl | (go_simp; done) | (simp [Region.wanted, yielded]; done))
                        · intro γ' W hg hI
                          have x0 : W.cell? ⟨J, 0, none⟩ = some (.map (some M)) := (cell_of_row _ _ _ _ _ _ ((hI.far J (lt_of_heap HT.out.j.hJ) hJM).trans HT.out.j.hJ)).trans rfl
                          go_simp
                        go_simp
                        apply SeqF.read (v := .agg #[.int .u64 id, .int .i64 n]) []
                        · (first | rfl | (go_simp; done) | (simp [Region.wanted, yielded]; done))
                        · exact fun γ' W hg hI => exec_load rfl rfl (run_load_blk placeInfo placeRow ((hI.far A (lt_of_heap HA.out) (by omega)).trans HA.out))
                        go_simp
                        apply SeqF.read (v := .agg #[.int .u64 id, .int .i64 n, .bool last, .slice A3 bs.length c3]) []
                        · (first | rfl | (go_simp; done) | (simp [Region.wanted, yielded]; done))
                        · exact fun γ' W hg hI => exec_load rfl rfl (run_load_blk partInfo partRow ((hI.far B (lt_of_heap HT.out.hB) (by omega)).trans HT.out.hB))
                        go_simp
                        apply SeqF.store [0] 0 M (.map es2 k2) rfl (by simp) (fun _ => .map (es2.push ⟨keyP id n, HP.val id ⟨n, last, .slice A3 bs.length c3, bs⟩, k2⟩) (k2 + 1))
                        · exact fun _ _ => rfl
                        · (first | rfl | (go_simp; done) | (simp [Region.wanted, yielded]; done))
                        · exact fun γ' W hg hI hW => exec_put (p := ⟨n, last, .slice A3 bs.length c3, bs⟩) rfl rfl rfl rfl hE2 HFD.out hW
                        go_simp
                        apply SeqF.done
                        intro w9' hI9
                        have hT9 := HT.out.invM (s' := { s1 with L := s1.L ++ [⟨n, last, .slice A3 bs.length c3, bs⟩] }) hI9 (Gh.set_here _ _ _) (by
                          show Ents s1.id _ _
                          rw [HID.out, Array.toList_push]
                          exact Ents.push (p := ⟨n, last, .slice A3 bs.length c3, bs⟩) (k := k2) hE2) rfl (by
                          intro p hp
                          rcases List.mem_append.1 hp with hp | hp
                          · exact HT.out.j.hP p hp
                          · obtain rfl := List.mem_singleton.1 hp
                            exact ⟨HBd.out, fun b h1 h2 => by have := HOwn.out b h2; omega⟩) (by
                          intro p hp
                          rcases List.mem_append.1 hp with hp | hp
                          · exact HT.out.ap p hp
                          · obtain rfl := List.mem_singleton.1 hp
                            exact fun b h1 h2 => by have := HOwn.out b h2; omega)
                        have hbl2 : bs.length ≤ 1024 ∧ 0 ≤ n ∧ n < 256 := by
                          have h := HM.out
                          simp only [mayB, Bool.and_eq_true, decide_eq_true_eq] at h
                          exact ⟨h.2.2.1, h.1, h.2.1⟩
                        have hby := HS1.out.bytes
                        have hwb : IntKind.i64.wrap (s1.bytes + (bs.length : Int)) = s1.bytes + (bs.length : Int) := IntWalk.i64_in _ (by omega)
                        have HAD0 : Hid (addS s1 ⟨n, last, .slice A3 bs.length c3, bs⟩ = { s1 with L := s1.L ++ [⟨n, last, .slice A3 bs.length c3, bs⟩], bytes := s1.bytes + (bs.length : Int) }) := Lib.hid (by simp [addS, HFD.out])
                        have HNEW0 : Hid (∀ q ∈ s1.L ++ [(⟨n, last, .slice A3 bs.length c3, bs⟩ : HP)], q ∈ L ∨ ∀ b, q.v.ownBlock = some b → w.heap.size ≤ b) := Lib.hid (by
                          intro q hq
                          rcases List.mem_append.1 hq with hq | hq
                          · exact .inl (HN1.out q hq)
                          · obtain rfl := List.mem_singleton.1 hq
                            exact .inr (fun b h2 => by have := HOwn.out b h2; omega))
                        have HS2 : Hid (JOk { s1 with L := s1.L ++ [⟨n, last, .slice A3 bs.length c3, bs⟩], bytes := s1.bytes + (bs.length : Int) }) := Lib.hid (by rw [← HAD0.out]; exact HS1.out.add hbl2.1 hbl2.2.1 hbl2.2.2)
                        clear hI9 HT HA hM2 hE2 HBd HOwn hby hbl2
                        have HT := Lib.hid hT9
                        clear hT9
                        go_simp
                        go_wp2_with fail
                        apply wp_region_eff _ _ HT.out.startJ (hm := by kernel_rfl)
                        case h =>
                          (apply SeqF.pure; (focus (first | rfl | (go_simp; done) | (simp [Region.wanted, yielded]; done))); (focus (intro w; go_simp; with_reducible rfl)); go_simp)
                          (apply SeqF.pure; (focus (first | rfl | (go_simp; done) | (simp [Region.wanted, yielded]; done))); (focus (intro w; go_simp; with_reducible rfl)); go_simp)
                          (apply SeqF.pure; (focus (first | rfl | (go_simp; done) | (simp [Region.wanted, yielded]; done))); (focus (intro w; go_simp; with_reducible rfl)); go_simp)
                          apply SeqF.read (v := .int .i64 s1.bytes) [0]
                          · (first | rfl | (go_simp; done) | (simp [Region.wanted, yielded]; done))
                          · intro γ' W hg hI
                            have x0 : W.cell? ⟨J, 4, none⟩ = some (.int .i64 s1.bytes) := (cell_of_row _ _ _ _ _ _ (hI.here 0 J _ ((hg 0 (by simp)).trans rfl)).1).trans rfl
                            go_simp
                          go_simp
                          (apply SeqF.pure; (focus (first | rfl | (go_simp; done) | (simp [Region.wanted, yielded]; done))); (focus (intro w; go_simp; with_reducible rfl)); go_simp)
                          apply SeqF.read (v := .slice A3 bs.length c3) []
                          · (first | rfl | (go_simp; done) | (simp [Region.wanted, yielded]; done))
                          · intro γ' W hg hI
                            have x0 : W.cell? ⟨B, 3, none⟩ = some (.slice A3 bs.length c3) := (cell_of_row _ _ _ _ _ _ ((hI.far B (lt_of_heap HT.out.hB) (by omega)).trans HT.out.hB)).trans rfl
                            go_simp
                          go_simp
                          (apply SeqF.pure; (focus (first | rfl | (go_simp; done) | (simp [Region.wanted, yielded]; done))); (focus (intro w; go_simp; with_reducible rfl)); go_simp)
                          (apply SeqF.pure; (focus (first | rfl | (go_simp; done) | (simp [Region.wanted, yielded]; done))); (focus (intro w; go_simp; with_reducible rfl)); go_simp)
                          (apply SeqF.pure; (focus (first | rfl | (go_simp; done) | (simp [Region.wanted, yielded]; done))); (focus (intro w; go_simp; with_reducible rfl)); go_simp)
                          (apply SeqF.pure; (focus (first | rfl | (go_simp; done) | (simp [Region.wanted, yielded]; done))); (focus (intro w; go_simp; with_reducible rfl)); go_simp)
                          apply SeqF.store [0] 0 J _ rfl (by simp) (fun _ => .cells (jrow M { s1 with L := s1.L ++ [⟨n, last, .slice A3 bs.length c3, bs⟩], bytes := s1.bytes + (bs.length : Int) }) 60 (0, 0))
                          · exact fun _ _ => rfl
                          · (first | rfl | (go_simp; done) | (simp [Region.wanted, yielded]; done))
                          · exact fun γ' W hg hI hW => exec_st1 (i := 4) (st_int (s1.bytes + (bs.length : Int))) rfl rfl rfl (by simp [jrow]) rfl hW
                          go_simp
                          apply SeqF.done
                          intro w9 hI9
                          have hT9 := HT.out.invJ (s' := { s1 with L := s1.L ++ [⟨n, last, .slice A3 bs.length c3, bs⟩], bytes := s1.bytes + (bs.length : Int) }) hI9 (Gh.set_here _ _ _) rfl (.inr rfl)
                          clear hI9 HT hwb
                          have HT := Lib.hid hT9
                          clear hT9
                          go_simp
                          obtain ⟨s2, hs2⟩ : ∃ s2, ({ s1 with L := s1.L ++ [⟨n, last, .slice A3 bs.length c3, bs⟩], bytes := s1.bytes + (bs.length : Int) } : JS) = s2 := ⟨_, rfl⟩
                          obtain ⟨vc, hvc⟩ : ∃ vc, Value.slice A3 bs.length c3 = vc := ⟨_, rfl⟩
                          have HNEW : Hid (∀ q ∈ s2.L, q ∈ L ∨ ∀ b, q.v.ownBlock = some b → w.heap.size ≤ b) := Lib.hid (by rw [← hs2]; exact HNEW0.out)
                          rw [hs2] at HS2 HAD0 HT
                          have HAD : Hid (addS s1 ⟨n, last, vc, bs⟩ = s2) := Lib.hid (by rw [← hvc]; exact HAD0.out)
                          clear hs2 hvc HAD0 HNEW0
                          obtain ⟨r, hr⟩ : ∃ r, wholeF s2.L 256 0 [] = r := ⟨_, rfl⟩
                          have HW := Lib.hid hr
                          clear hr
                          have hsz : w.heap.size ≤ w9.heap.size := HT.out.fr.size
                          have c0 := HT.out.j.cell.1
                          go_wp2_with fail
                          refine (whole_any J M s2 w9 HT.out.j (fun p hp => (HS2.out.part p hp).1)).mono ?_
                          rintro e w4 ⟨⟨vr, rfl, ho⟩, hb4⟩
                          rw [HW.out] at ho ⊢
                          have hT4 := HT.out.below hb4
                          clear hb4 HT c0
                          have HT := Lib.hid hT4
                          clear hT4
                          have hlt := HT.out.lt
                          have HO := Lib.hid ho
                          cases r with
                          | none =>
                            replace ho : OwB w4 w9.heap.size vr [] := ho
                            replace HO : Hid (OwB w4 w9.heap.size vr []) := HO
                            obtain ⟨A5, c5, hv5⟩ := ho.slice
                            subst hv5
                            have HE : Hid (endS s2 = s2) := Lib.hid (by simp [endS, HW.out])
                            clear ho
                            go_wp2_with fail
                            refine bodyPost_ret (v := .tuple #[.slice A5 0 c5, .bool false, .int .i64 0]) (by simp [results, Try.results8, go_sem]) rfl ⟨.slice A5 0 c5, vc, ?_, ?_, ?_, HT.out.fr, ?_⟩
                            · simp [takeR, HM.out, HST.out, errT, HF.out, HAD.out, HW.out]
                            · simp only [takeR, HM.out, HST.out, HF.out, HAD.out, HW.out]
                              exact HO.out.mono (by omega)
                            · simp only [takeS, HM.out, HST.out, HF.out, HAD.out]
                              simp only [if_true, Bool.false_eq_true, if_false, HE.out]
                              exact HT.out.j
                            · simp only [takeS, HM.out, HST.out, HF.out, HAD.out]
                              simp only [if_true, Bool.false_eq_true, if_false, HE.out]
                              exact fun q hq => (HNEW.out q hq).imp (fun h => h) (fun h b hb => by have := h b hb; omega)
                          | some acc =>
                            replace ho : OwB w4 w9.heap.size vr acc := ho
                            replace HO : Hid (OwB w4 w9.heap.size vr acc) := HO
                            obtain ⟨A5, c5, hv5⟩ := ho.slice
                            subst hv5
                            obtain ⟨es4, k4, hM4, -⟩ := HT.out.j.hM
                            have c0 := HT.out.j.cell.1
                            clear ho
                            go_wp2_with (with_reducible refine wpList_clear rfl (.tmp 123) rfl rfl hM4 ?_)
                            intro w5 h5
                            have HT5 := Lib.hid (HT.out.cleared hM4 h5)
                            have HO5 : Hid (OwB w5 w9.heap.size (.slice A5 _ c5) acc) := Lib.hid (HO.out.keep fun b h1 h2 => h5.far b (by have := (HO.out.own_blk h1).1; have := HT.out.fr.size; omega))
                            clear HT hM4 h5 c0 HO
                            have c3 := HT5.out.j.cell.2.2.2.1
                            have c4 := HT5.out.j.cell.2.2.2.2
                            have g3 := frozen_of_row w5 J 3 _ _ HT5.out.j.hJ
                            have g4 := frozen_of_row w5 J 4 _ _ HT5.out.j.hJ
                            have hT6 := HT5.out.setJ (s' := { s2 with L := [], ended := true }) (i := 3) (v := .bool true) rfl rfl (.inl rfl)
                            have HT7 := Lib.hid (hT6.setJ (s' := { s2 with L := [], ended := true, bytes := 0 }) (i := 4) (v := .int .i64 0) rfl rfl (.inl rfl))
                            have HE : Hid (endS s2 = { s2 with L := [], ended := true, bytes := 0 }) := Lib.hid (by simp [endS, HW.out])
                            have HO7 : Hid (OwB ((w5.setCell ⟨J, 3, none⟩ (.bool true)).setCell ⟨J, 4, none⟩ (.int .i64 0)) w9.heap.size (.slice A5 _ c5) acc) := Lib.hid (HO5.out.keep fun b h1 h2 => by
                              have := (HO5.out.own_blk h1).1
                              rw [heap_setCell_other _ ⟨_, _, _⟩ _ _ (by show b ≠ J; omega), heap_setCell_other _ ⟨_, _, _⟩ _ _ (by show b ≠ J; omega)])
                            clear hT6 HT5 HO5
                            go_wp2_with fail
                            refine bodyPost_ret (v := .tuple #[.slice A5 acc.length c5, .bool true, .int .i64 0]) (by simp [results, Try.results8, go_sem]) rfl ⟨.slice A5 acc.length c5, vc, ?_, ?_, ?_, HT7.out.fr, ?_⟩
                            · simp [takeR, HM.out, HST.out, errT, HF.out, HAD.out, HW.out]
                            · simp only [takeR, HM.out, HST.out, HF.out, HAD.out, HW.out]
                              exact HO7.out.mono (by omega)
                            · simp only [takeS, HM.out, HST.out, HF.out, HAD.out]
                              simp only [if_true, Bool.false_eq_true, if_false, HE.out]
                              exact HT7.out.j
                            · simp only [takeS, HM.out, HST.out, HF.out, HAD.out]
                              simp only [if_true, Bool.false_eq_true, if_false, HE.out]
                              exact fun q hq => by cases hq
                        case hl => rfl
                        case ho => kernel_rfl
                      case hl => rfl
                      case ho => kernel_rfl
                    case hl => rfl
                    case ho => kernel_rfl
              case hl => rfl
              case ho => kernel_rfl
            case hl => rfl
            case ho => kernel_rfl
          · have HST : Hid (staleS ⟨true, id, true, bytes, L⟩ id = true) := Lib.hid (by simp [staleS])
            apply wp_region_eff _ _ (Inv.start0 _ fun _ => False) (hm := by kernel_rfl)
            case h =>
              (apply SeqF.pure; (focus (first | rfl | (go_simp; done) | (simp [Region.wanted, yielded]; done))); (focus (intro w; go_simp; with_reducible rfl)); go_simp)
              (apply SeqF.pure; (focus (first | rfl | (go_simp; done) | (simp [Region.wanted, yielded]; done))); (focus (intro w; go_simp; with_reducible rfl)); go_simp)
              (apply SeqF.pure; (focus (first | rfl | (go_simp; done) | (simp [Region.wanted, yielded]; done))); (focus (intro w; go_simp; with_reducible rfl)); go_simp)
              apply SeqF.read (v := .bool true) []
              · (first | rfl | (go_simp; done) | (simp [Region.wanted, yielded]; done))
              · intro γ' W hg hI
                have x0 := (HT.out.j.below hI.belowOf).cell.2.1
                go_simp
              go_simp
              (apply SeqF.pure; (focus (first | rfl | (go_simp; done) | (simp [Region.wanted, yielded]; done))); (focus (intro w; go_simp; with_reducible rfl)); go_simp)
              (apply SeqF.pure; (focus (first | rfl | (go_simp; done) | (simp [Region.wanted, yielded]; done))); (focus (intro w; go_simp; with_reducible rfl)); go_simp)
              apply SeqF.read (v := .int .u64 id) []
              · (first | rfl | (go_simp; done) | (simp [Region.wanted, yielded]; done))
              · intro γ' W hg hI
                have x0 : W.cell? ⟨B, 0, none⟩ = some (.int .u64 id) := (cell_of_row _ _ _ _ _ _ (HT.out.below hI.belowOf).hB).trans rfl
                go_simp
              go_simp
              (apply SeqF.pure; (focus (first | rfl | (go_simp; done) | (simp [Region.wanted, yielded]; done))); (focus (intro w; go_simp; with_reducible rfl)); go_simp)
              (apply SeqF.pure; (focus (first | rfl | (go_simp; done) | (simp [Region.wanted, yielded]; done))); (focus (intro w; go_simp; with_reducible rfl)); go_simp)
              (apply SeqF.pure; (focus (first | rfl | (go_simp; done) | (simp [Region.wanted, yielded]; done))); (focus (intro w; go_simp; with_reducible rfl)); go_simp)
              apply SeqF.read (v := .int .u64 id) []
              · (first | rfl | (go_simp; done) | (simp [Region.wanted, yielded]; done))
              · intro γ' W hg hI
                have x0 := (HT.out.j.below hI.belowOf).cell.2.2.1
                go_simp
              go_simp
              (apply SeqF.pure; (focus (first | rfl | (go_simp; done) | (simp [Region.wanted, yielded]; done))); (focus (intro w; go_simp; with_reducible rfl)); go_simp)
              (apply SeqF.pure; (focus (first | rfl | (go_simp; done) | (simp [Region.wanted, yielded]; done))); (focus (intro w; go_simp; with_reducible rfl)); go_simp)
              (apply SeqF.pure; (focus (first | rfl | (go_simp; done) | (simp [Region.wanted, yielded]; done))); (focus (intro w; go_simp; with_reducible rfl)); go_simp)
              apply SeqF.read (v := .int .u64 id) []
              · (first | rfl | (go_simp; done) | (simp [Region.wanted, yielded]; done))
              · intro γ' W hg hI
                have x0 : W.cell? ⟨B, 0, none⟩ = some (.int .u64 id) := (cell_of_row _ _ _ _ _ _ (HT.out.below hI.belowOf).hB).trans rfl
                go_simp
              go_simp
              (apply SeqF.pure; (focus (first | rfl | (go_simp; done) | (simp [Region.wanted, yielded]; done))); (focus (intro w; go_simp; with_reducible rfl)); go_simp)
              (apply SeqF.pure; (focus (first | rfl | (go_simp; done) | (simp [Region.wanted, yielded]; done))); (focus (intro w; go_simp; with_reducible rfl)); go_simp)
              (apply SeqF.pure; (focus (first | rfl | (go_simp; done) | (simp [Region.wanted, yielded]; done))); (focus (intro w; go_simp; with_reducible rfl)); go_simp)
              apply SeqF.read (v := .int .u64 id) []
              · (first | rfl | (go_simp; done) | (simp [Region.wanted, yielded]; done))
              · intro γ' W hg hI
                have x0 := (HT.out.j.below hI.belowOf).cell.2.2.1
                go_simp
              go_simp
              (apply SeqF.pure; (focus (first | rfl | (go_simp; done) | (simp [Region.wanted, yielded]; done))); (focus (intro w; go_simp; with_reducible rfl)); go_simp)
              (apply SeqF.pure; (focus (first | rfl | (go_simp; done) | (simp [Region.wanted, yielded]; done))); (focus (intro w; go_simp; with_reducible rfl)); go_simp)
              (apply SeqF.pure; (focus (first | rfl | (go_simp; done) | (simp [Region.wanted, yielded]; done))); (focus (intro w; go_simp; with_reducible rfl)); go_simp)
              (apply SeqF.pure; (focus (first | rfl | (go_simp; done) | (simp [Region.wanted, yielded]; done))); (focus (intro w; go_simp; with_reducible rfl)); go_simp)
              (apply SeqF.pure; (focus (first | rfl | (go_simp; done) | (simp [Region.wanted, yielded]; done))); (focus (intro w; go_simp; with_reducible rfl)); go_simp)
              apply SeqF.read (v := .bool true) []
              · (first | rfl | (go_simp; done) | (simp [Region.wanted, yielded]; done))
              · intro γ' W hg hI
                have x0 := (HT.out.j.below hI.belowOf).cell.2.2.2.1
                go_simp
              go_simp
              (apply SeqF.pure; (focus (first | rfl | (go_simp; done) | (simp [Region.wanted, yielded]; done))); (focus (intro w; go_simp; with_reducible rfl)); go_simp)
              (apply SeqF.pure; (focus (first | rfl | (go_simp; done) | (simp [Region.wanted, yielded]; done))); (focus (intro w; go_simp; with_reducible rfl)); go_simp)
              (apply SeqF.pure; (focus (first | rfl | (go_simp; done) | (simp [Region.wanted, yielded]; done))); (focus (intro w; go_simp; with_reducible rfl)); go_simp)
              (apply SeqF.pure; (focus (first | rfl | (go_simp; done) | (simp [Region.wanted, yielded]; done))); (focus (intro w; go_simp; with_reducible rfl)); go_simp)
              apply SeqF.done
              intro w9 hI9
              have hT9 := HT.out.below hI9.belowOf
              have hV9 := HV.out.below hI9.belowOf
              clear hI9 HT HV
              have HT := Lib.hid hT9
              have HV := Lib.hid hV9
              clear hT9 hV9
              go_simp
              go_wp2_with fail
              refine bodyPost_ret (v := .tuple #[.slice none 0 0, .bool false, .int .i64 0]) (by simp [results, Try.results8, go_sem]) rfl ⟨.slice none 0 0, v, ?_, ?_, ?_, HT.out.fr, ?_⟩
              · simp [takeR, HM.out, HST.out, errT]
              · simp only [takeR, HM.out, HST.out]; exact OwB.nil _ _
              · simp only [takeS, HM.out, HST.out]; exact HT.out.j
              · simp only [takeS, HM.out, HST.out]; exact fun q hq => .inl hq
            case hl => rfl
            case ho => kernel_rfl
        · have hgt : id0 < id := by omega
          have HST : Hid (staleS ⟨true, id0, ended, bytes, L⟩ id = false) := Lib.hid (by simp [staleS, hlt, heq])
          have HF : Hid (freshS ⟨true, id0, ended, bytes, L⟩ id = ⟨true, id, false, 0, []⟩) := Lib.hid (by simp [freshS, hgt])
          apply wp_region_eff _ _ (Inv.start0 _ fun _ => False) (hm := by kernel_rfl)
          case h =>
            (apply SeqF.pure; (focus (first | rfl | (go_simp; done) | (simp [Region.wanted, yielded]; done))); (focus (intro w; go_simp; with_reducible rfl)); go_simp)
            (apply SeqF.pure; (focus (first | rfl | (go_simp; done) | (simp [Region.wanted, yielded]; done))); (focus (intro w; go_simp; with_reducible rfl)); go_simp)
            (apply SeqF.pure; (focus (first | rfl | (go_simp; done) | (simp [Region.wanted, yielded]; done))); (focus (intro w; go_simp; with_reducible rfl)); go_simp)
            apply SeqF.read (v := .bool true) []
            · (first | rfl | (go_simp; done) | (simp [Region.wanted, yielded]; done))
            · intro γ' W hg hI
              have x0 := (HT.out.j.below hI.belowOf).cell.2.1
              go_simp
            go_simp
            (apply SeqF.pure; (focus (first | rfl | (go_simp; done) | (simp [Region.wanted, yielded]; done))); (focus (intro w; go_simp; with_reducible rfl)); go_simp)
            (apply SeqF.pure; (focus (first | rfl | (go_simp; done) | (simp [Region.wanted, yielded]; done))); (focus (intro w; go_simp; with_reducible rfl)); go_simp)
            apply SeqF.read (v := .int .u64 id) []
            · (first | rfl | (go_simp; done) | (simp [Region.wanted, yielded]; done))
            · intro γ' W hg hI
              have x0 : W.cell? ⟨B, 0, none⟩ = some (.int .u64 id) := (cell_of_row _ _ _ _ _ _ (HT.out.below hI.belowOf).hB).trans rfl
              go_simp
            go_simp
            (apply SeqF.pure; (focus (first | rfl | (go_simp; done) | (simp [Region.wanted, yielded]; done))); (focus (intro w; go_simp; with_reducible rfl)); go_simp)
            (apply SeqF.pure; (focus (first | rfl | (go_simp; done) | (simp [Region.wanted, yielded]; done))); (focus (intro w; go_simp; with_reducible rfl)); go_simp)
            (apply SeqF.pure; (focus (first | rfl | (go_simp; done) | (simp [Region.wanted, yielded]; done))); (focus (intro w; go_simp; with_reducible rfl)); go_simp)
            apply SeqF.read (v := .int .u64 id0) []
            · (first | rfl | (go_simp; done) | (simp [Region.wanted, yielded]; done))
            · intro γ' W hg hI
              have x0 := (HT.out.j.below hI.belowOf).cell.2.2.1
              go_simp
            go_simp
            (apply SeqF.pure; (focus (first | rfl | (go_simp; done) | (simp [Region.wanted, yielded]; done))); (focus (intro w; go_simp; with_reducible rfl)); go_simp)
            (apply SeqF.pure; (focus (first | rfl | (go_simp; done) | (simp [Region.wanted, yielded]; done))); (focus (intro w; go_simp; with_reducible rfl)); go_simp)
            (apply SeqF.pure; (focus (first | rfl | (go_simp; done) | (simp [Region.wanted, yielded]; done))); (focus (intro w; go_simp; with_reducible rfl)); go_simp)
            apply SeqF.read (v := .int .u64 id) []
            · (first | rfl | (go_simp; done) | (simp [Region.wanted, yielded]; done))
            · intro γ' W hg hI
              have x0 : W.cell? ⟨B, 0, none⟩ = some (.int .u64 id) := (cell_of_row _ _ _ _ _ _ (HT.out.below hI.belowOf).hB).trans rfl
              go_simp
            go_simp
            (apply SeqF.pure; (focus (first | rfl | (go_simp; done) | (simp [Region.wanted, yielded]; done))); (focus (intro w; go_simp; with_reducible rfl)); go_simp)
            (apply SeqF.pure; (focus (first | rfl | (go_simp; done) | (simp [Region.wanted, yielded]; done))); (focus (intro w; go_simp; with_reducible rfl)); go_simp)
            (apply SeqF.pure; (focus (first | rfl | (go_simp; done) | (simp [Region.wanted, yielded]; done))); (focus (intro w; go_simp; with_reducible rfl)); go_simp)
            apply SeqF.read (v := .int .u64 id0) []
            · (first | rfl | (go_simp; done) | (simp [Region.wanted, yielded]; done))
            · intro γ' W hg hI
              have x0 := (HT.out.j.below hI.belowOf).cell.2.2.1
              go_simp
            go_simp
            (apply SeqF.pure; (focus (first | rfl | (go_simp; done) | (simp [Region.wanted, yielded]; done))); (focus (intro w; go_simp; with_reducible rfl)); go_simp)
            (apply SeqF.pure; (focus (first | rfl | (go_simp; done) | (simp [Region.wanted, yielded]; done))); (focus (intro w; go_simp; with_reducible rfl)); go_simp)
            (apply SeqF.skip; (focus (first | rfl | (go_simp; done) | (simp [Region.wanted, yielded]; done))); go_simp)
            (apply SeqF.skip; (focus (first | rfl | (go_simp; done) | (simp [Region.wanted, yielded]; done))); go_simp)
            (apply SeqF.skip; (focus (first | rfl | (go_simp; done) | (simp [Region.wanted, yielded]; done))); go_simp)
            (apply SeqF.skip; (focus (first | rfl | (go_simp; done) | (simp [Region.wanted, yielded]; done))); go_simp)
            (apply SeqF.pure; (focus (first | rfl | (go_simp; done) | (simp [Region.wanted, yielded]; done))); (focus (intro w; go_simp; with_reducible rfl)); go_simp)
            (apply SeqF.pure; (focus (first | rfl | (go_simp; done) | (simp [Region.wanted, yielded]; done))); (focus (intro w; go_simp; with_reducible rfl)); go_simp)
            (apply SeqF.pure; (focus (first | rfl | (go_simp; done) | (simp [Region.wanted, yielded]; done))); (focus (intro w; go_simp; with_reducible rfl)); go_simp)
            (apply SeqF.pure; (focus (first | rfl | (go_simp; done) | (simp [Region.wanted, yielded]; done))); (focus (intro w; go_simp; with_reducible rfl)); go_simp)
            apply SeqF.done
            intro w9 hI9
            have hT9 := HT.out.below hI9.belowOf
            have hV9 := HV.out.below hI9.belowOf
            clear hI9 HT HV
            have HT := Lib.hid hT9
            have HV := Lib.hid hV9
            clear hT9 hV9
            go_simp
            go_wp2_with fail
            apply wp_region_eff _ _ (Inv.start0 _ fun _ => False) (hm := by kernel_rfl)
            case h =>
              (apply SeqF.pure; (focus (first | rfl | (go_simp; done) | (simp [Region.wanted, yielded]; done))); (focus (intro w; go_simp; with_reducible rfl)); go_simp)
              (apply SeqF.pure; (focus (first | rfl | (go_simp; done) | (simp [Region.wanted, yielded]; done))); (focus (intro w; go_simp; with_reducible rfl)); go_simp)
              (apply SeqF.pure; (focus (first | rfl | (go_simp; done) | (simp [Region.wanted, yielded]; done))); (focus (intro w; go_simp; with_reducible rfl)); go_simp)
              apply SeqF.read (v := .bool true) []
              · (first | rfl | (go_simp; done) | (simp [Region.wanted, yielded]; done))
              · intro γ' W hg hI
                have x0 := (HT.out.j.below hI.belowOf).cell.2.1
                go_simp
              go_simp
              (apply SeqF.pure; (focus (first | rfl | (go_simp; done) | (simp [Region.wanted, yielded]; done))); (focus (intro w; go_simp; with_reducible rfl)); go_simp)
              (apply SeqF.pure; (focus (first | rfl | (go_simp; done) | (simp [Region.wanted, yielded]; done))); (focus (intro w; go_simp; with_reducible rfl)); go_simp)
              (apply SeqF.pure; (focus (first | rfl | (go_simp; done) | (simp [Region.wanted, yielded]; done))); (focus (intro w; go_simp; with_reducible rfl)); go_simp)
              apply SeqF.read (v := .int .u64 id) []
              · (first | rfl | (go_simp; done) | (simp [Region.wanted, yielded]; done))
              · intro γ' W hg hI
                have x0 : W.cell? ⟨B, 0, none⟩ = some (.int .u64 id) := (cell_of_row _ _ _ _ _ _ (HT.out.below hI.belowOf).hB).trans rfl
                go_simp
              go_simp
              (apply SeqF.pure; (focus (first | rfl | (go_simp; done) | (simp [Region.wanted, yielded]; done))); (focus (intro w; go_simp; with_reducible rfl)); go_simp)
              (apply SeqF.pure; (focus (first | rfl | (go_simp; done) | (simp [Region.wanted, yielded]; done))); (focus (intro w; go_simp; with_reducible rfl)); go_simp)
              (apply SeqF.pure; (focus (first | rfl | (go_simp; done) | (simp [Region.wanted, yielded]; done))); (focus (intro w; go_simp; with_reducible rfl)); go_simp)
              apply SeqF.read (v := .int .u64 id0) []
              · (first | rfl | (go_simp; done) | (simp [Region.wanted, yielded]; done))
              · intro γ' W hg hI
                have x0 := (HT.out.j.below hI.belowOf).cell.2.2.1
                go_simp
              go_simp
              (apply SeqF.pure; (focus (first | rfl | (go_simp; done) | (simp [Region.wanted, yielded]; done))); (focus (intro w; go_simp; with_reducible rfl)); go_simp)
              (apply SeqF.pure; (focus (first | rfl | (go_simp; done) | (simp [Region.wanted, yielded]; done))); (focus (intro w; go_simp; with_reducible rfl)); go_simp)
              apply SeqF.done
              intro w9 hI9
              have hT9 := HT.out.below hI9.belowOf
              have HV9 := Lib.hid (HV.out.below hI9.belowOf)
              clear hI9 HT HV
              have HT := Lib.hid hT9
              clear hT9
              obtain ⟨esx, kx, hMx, -⟩ := HT.out.j.hM
              have c0 := HT.out.j.cell.1
              go_simp
              go_wp2_with (with_reducible refine wpList_clear rfl (.tmp 63) rfl rfl hMx ?_)
              intro w5 h5
              have HT5 := Lib.hid (HT.out.cleared hMx h5)
              have HV5 := Lib.hid (HV9.out.inv (h5.inv hMx) (fun b h1 h2 => (HVN.out b h1 h2).2))
              clear HT HV9 hMx h5 c0
              have HT := HT5
              have HV := HV5
              clear HT5 HV5
              go_wp2_with fail
              apply wp_region_eff _ _ HT.out.startJ (hm := by kernel_rfl)
              case h =>
                (apply SeqF.pure; (focus (first | rfl | (go_simp; done) | (simp [Region.wanted, yielded]; done))); (focus (intro w; go_simp; with_reducible rfl)); go_simp)
                (apply SeqF.pure; (focus (first | rfl | (go_simp; done) | (simp [Region.wanted, yielded]; done))); (focus (intro w; go_simp; with_reducible rfl)); go_simp)
                (apply SeqF.pure; (focus (first | rfl | (go_simp; done) | (simp [Region.wanted, yielded]; done))); (focus (intro w; go_simp; with_reducible rfl)); go_simp)
                (apply SeqF.pure; (focus (first | rfl | (go_simp; done) | (simp [Region.wanted, yielded]; done))); (focus (intro w; go_simp; with_reducible rfl)); go_simp)
                (apply SeqF.pure; (focus (first | rfl | (go_simp; done) | (simp [Region.wanted, yielded]; done))); (focus (intro w; go_simp; with_reducible rfl)); go_simp)
                apply SeqF.read (v := .int .u64 id) []
                · (first | rfl | (go_simp; done) | (simp [Region.wanted, yielded]; done))
                · intro γ' W hg hI
                  have x0 : W.cell? ⟨B, 0, none⟩ = some (.int .u64 id) := (cell_of_row _ _ _ _ _ _ ((hI.far B (lt_of_heap HT.out.hB) (by have := HT.out.lt; omega)).trans HT.out.hB)).trans rfl
                  go_simp
                go_simp
                (apply SeqF.pure; (focus (first | rfl | (go_simp; done) | (simp [Region.wanted, yielded]; done))); (focus (intro w; go_simp; with_reducible rfl)); go_simp)
                (apply SeqF.pure; (focus (first | rfl | (go_simp; done) | (simp [Region.wanted, yielded]; done))); (focus (intro w; go_simp; with_reducible rfl)); go_simp)
                apply SeqF.store [0] 0 J _ rfl (by simp) (fun _ => .cells (jrow M ⟨true, id0, ended, bytes, []⟩) 60 (0, 0))
                · exact fun _ _ => rfl
                · (first | rfl | (go_simp; done) | (simp [Region.wanted, yielded]; done))
                · exact fun γ' W hg hI hW => exec_st1 (i := 1) (st_bool true) rfl rfl rfl (by simp [jrow]) rfl hW
                go_simp
                (apply SeqF.pure; (focus (first | rfl | (go_simp; done) | (simp [Region.wanted, yielded]; done))); (focus (intro w; go_simp; with_reducible rfl)); go_simp)
                (apply SeqF.pure; (focus (first | rfl | (go_simp; done) | (simp [Region.wanted, yielded]; done))); (focus (intro w; go_simp; with_reducible rfl)); go_simp)
                apply SeqF.store [0] 0 J _ (Gh.set_here _ _ _) (by simp) (fun _ => .cells (jrow M ⟨true, id, ended, bytes, []⟩) 60 (0, 0))
                · exact fun _ _ => rfl
                · (first | rfl | (go_simp; done) | (simp [Region.wanted, yielded]; done))
                · exact fun γ' W hg hI hW => exec_st1 (i := 2) (st_u64 id) rfl rfl rfl (by simp [jrow]) rfl hW
                go_simp
                (apply SeqF.pure; (focus (first | rfl | (go_simp; done) | (simp [Region.wanted, yielded]; done))); (focus (intro w; go_simp; with_reducible rfl)); go_simp)
                (apply SeqF.pure; (focus (first | rfl | (go_simp; done) | (simp [Region.wanted, yielded]; done))); (focus (intro w; go_simp; with_reducible rfl)); go_simp)
                apply SeqF.store [0] 0 J _ (Gh.set_here _ _ _) (by simp) (fun _ => .cells (jrow M ⟨true, id, false, bytes, []⟩) 60 (0, 0))
                · exact fun _ _ => rfl
                · (first | rfl | (go_simp; done) | (simp [Region.wanted, yielded]; done))
                · exact fun γ' W hg hI hW => exec_st1 (i := 3) (st_bool false) rfl rfl rfl (by simp [jrow]) rfl hW
                go_simp
                (apply SeqF.pure; (focus (first | rfl | (go_simp; done) | (simp [Region.wanted, yielded]; done))); (focus (intro w; go_simp; with_reducible rfl)); go_simp)
                (apply SeqF.pure; (focus (first | rfl | (go_simp; done) | (simp [Region.wanted, yielded]; done))); (focus (intro w; go_simp; with_reducible rfl)); go_simp)
                apply SeqF.store [0] 0 J _ (Gh.set_here _ _ _) (by simp) (fun _ => .cells (jrow M ⟨true, id, false, 0, []⟩) 60 (0, 0))
                · exact fun _ _ => rfl
                · (first | rfl | (go_simp; done) | (simp [Region.wanted, yielded]; done))
                · exact fun γ' W hg hI hW => exec_st1 (i := 4) (st_int 0) rfl rfl rfl (by simp [jrow]) rfl hW
                go_simp
                apply SeqF.done
                intro w9 hI9
                have hT9 : TK w w9 J M B ⟨true, id, false, 0, []⟩ #[.int .u64 id, .int .i64 n, .bool last, v] := HT.out.invJ (s' := ⟨true, id, false, 0, []⟩) hI9 (Gh.set_here _ _ _) rfl (.inl rfl)
                have hV9 := HV.out.inv hI9 (fun b h1 h2 => (HVN.out b h1 h2).1)
                clear hI9 HT HV
                have HT := Lib.hid hT9
                have HV := Lib.hid hV9
                clear hT9 hV9
                go_simp
                obtain ⟨s1, hs1⟩ : ∃ s1, s1 = (⟨true, id, false, 0, []⟩ : JS) := ⟨_, rfl⟩
                have HID : Hid (s1.id = id) := Lib.hid (by rw [hs1])
                rw [← hs1] at HT HF
                have HS1 : Hid (JOk s1) := Lib.hid (by rw [← HF.out]; exact HS.out.fresh id)
                have HN1 : Hid (∀ q ∈ s1.L, q ∈ L) := Lib.hid (by rw [hs1]; simp)
                clear hs1
                as_aux_lemma =>
                  obtain ⟨A, hA⟩ : ∃ A, w9.heap.size = A := ⟨_, rfl⟩
                  have hAB : B < A := by rw [← hA]; exact lt_of_heap HT.out.hB
                  have HA0 : Hid ((w9.alloc (.cells #[.int .u64 0, .int .i64 0] 62)).heap[A]? = some (.cells #[.int .u64 0, .int .i64 0] 62 (0, 0))) := Lib.hid (by rw [← hA]; exact heap_alloc_last _ _)
                  have hbl : Below w9.heap.size w9 ((w9.alloc (.cells #[.int .u64 0, .int .i64 0] 62)).setRow A #[.int .u64 id, .int .i64 n]) := below_setRow (by (repeat' (first | (with_reducible exact Below.refl _ _) | (with_reducible assumption) | (with_reducible refine Below.alloc ?_ ?_ _) | (with_reducible refine below_setRow ?_ ?_ _) | (with_reducible refine bl_drew ?_) | (with_reducible refine bl_drewN ?_ _) | (with_reducible refine Below.setCell ?_ ?_ _) | (with_reducible refine bl_then ?_ ?_ hb) | (with_reducible refine bl_then ?_ ?_ hb1) | (with_reducible refine bl_then ?_ ?_ hb2) | (with_reducible refine bl_then ?_ ?_ hb3) | (with_reducible refine bl_then ?_ ?_ hb4) | (with_reducible refine bl_then ?_ ?_ hb5) | (with_reducible refine bl_then ?_ ?_ hb6) | (with_reducible refine bl_then ?_ ?_ hb7) | (with_reducible refine bl_then ?_ ?_ hb8) | (with_reducible exact Nat.le_refl _) | omega | (simp only [World.size_alloc, World.size_setCell, World.size_drew, size_setRow]; omega) | (simp; omega) | (simp; done)))) (by omega) _
                  have hT1 := HT.out.below hbl
                  have hV1 := HV.out.below hbl
                  have hA1 : ((w9.alloc (.cells #[.int .u64 0, .int .i64 0] 62)).setRow A #[.int .u64 id, .int .i64 n]).heap[A]? = some (.cells #[.int .u64 id, .int .i64 n] 62 (0, 0)) := setRow_heap _ _ _ _ _ _ HA0.out
                  have b0 := HT.out.cellB (i := 0) rfl
                  have b1 := HT.out.cellB (i := 1) rfl
                  clear hbl HT HV
                  go_wp2_with (with_reducible refine wpList_stB (row := #[.int .u64 id, .int .i64 n]) placeInfo (by simp [Value.oneCell']) rfl (.tmp 7) (.tmp 82) rfl rfl rfl HA0.out rfl ?_)
                  try rw [hA]
                  generalize (w9.alloc (.cells #[.int .u64 0, .int .i64 0] 62)).setRow A #[.int .u64 id, .int .i64 n] = W1 at *
                  have HT := Lib.hid hT1
                  have HV := Lib.hid hV1
                  have HA := Lib.hid hA1
                  clear hT1 hV1 hA1 HA0 hA b0 b1
                  obtain ⟨es, k, hM, hE⟩ := HT.out.j.hM
                  rw [HID.out] at hE
                  cases hfd : findL n s1.L with
                  | some q =>
                    have hbq := (HT.out.j.hP q (findL_mem hfd).1).1
                    have HO : Hid ((#[.int .u64 id, .int .i64 q.n, .bool q.last, q.v] : Array Value).all (·.oneCell') = true) := Lib.hid (prow_one (id := id) hbq)
                    have HX : Hid ((match findL n s1.L with | some p => Value.tuple #[p.val id, .bool true] | none => .tuple #[partV 0 0 false (.slice none 0 0), .bool false]) = .tuple #[.agg #[.int .u64 id, .int .i64 q.n, .bool q.last, q.v], .bool true]) := Lib.hid (by rw [hfd]; rfl)
                    have HAD : Hid (∀ vc, addS s1 ⟨n, last, vc, bs⟩ = s1) := Lib.hid (fun vc => by simp [addS, hfd])
                    clear hfd hbq
                    apply wp_region_eff _ _ (Inv.start0 W1 fun _ => False) (hm := by kernel_rfl)
                    case h =>
                      (apply SeqF.pure; (focus (first | rfl | (go_simp; done) | (simp [Region.wanted, yielded]; done))); (focus (intro w; go_simp; with_reducible rfl)); go_simp)
                      (apply SeqF.pure; (focus (first | rfl | (go_simp; done) | (simp [Region.wanted, yielded]; done))); (focus (intro w; go_simp; with_reducible rfl)); go_simp)
                      (apply SeqF.pure; (focus (first | rfl | (go_simp; done) | (simp [Region.wanted, yielded]; done))); (focus (intro w; go_simp; with_reducible rfl)); go_simp)
                      apply SeqF.read (v := .map (some M)) []
                      · (first | rfl | (go_simp; done) | (simp [Region.wanted, yielded]; done))
                      · intro γ' W hg hI
                        have x0 := (HT.out.j.below hI.belowOf).cell.1
                        go_simp
                      go_simp
                      apply SeqF.read (v := .agg #[.int .u64 id, .int .i64 n]) []
                      · (first | rfl | (go_simp; done) | (simp [Region.wanted, yielded]; done))
                      · exact fun γ' W hg hI => exec_load rfl rfl (run_load_blk placeInfo placeRow ((hI.far A (lt_of_heap HA.out) (fun h => h)).trans HA.out))
                      go_simp
                      apply SeqF.read (v := .tuple #[.agg #[.int .u64 id, .int .i64 q.n, .bool q.last, q.v], .bool true]) []
                      · (first | rfl | (go_simp; done) | (simp [Region.wanted, yielded]; done))
                      · intro γ' W hg hI
                        rw [← HX.out]
                        exact exec_look rfl rfl rfl ((hI.far M (lt_of_heap hM) (fun h => h)).trans hM) hE
                      go_simp
                      (apply SeqF.pure; (focus (first | rfl | (go_simp; done) | (simp [Region.wanted, yielded]; done))); (focus (intro w; go_simp; with_reducible rfl)); go_simp)
                      (apply SeqF.pure; (focus (first | rfl | (go_simp; done) | (simp [Region.wanted, yielded]; done))); (focus (intro w; go_simp; with_reducible rfl)); go_simp)
                      (apply SeqF.pure; (focus (first | rfl | (go_simp; done) | (simp [Region.wanted, yielded]; done))); (focus (intro w; go_simp; with_reducible rfl)); go_simp)
                      apply SeqF.new [] 0 (fun g => .pointer (some ⟨g, 0, none⟩)) (fun _ => .cells #[.int .u64 0, .int .i64 0, .bool false, .slice none 0 0] 33 (0, 0))
                      · intro γ' _; rfl
                      · (first | rfl | (go_simp; done) | (simp [Region.wanted, yielded]; done))
                      · intro γ' V hg hI; kernel_rfl
                      intro X hX
                      go_simp
                      apply SeqF.store [0] 0 X (.cells #[.int .u64 0, .int .i64 0, .bool false, .slice none 0 0] 33 (0, 0)) (Gh.set_here _ _ _) (by simp) (fun _ => .cells #[.int .u64 id, .int .i64 q.n, .bool q.last, q.v] 33 (0, 0))
                      · exact fun _ _ => rfl
                      · (first | rfl | (go_simp; done) | (simp [Region.wanted, yielded]; done))
                      · exact fun γ' W hg hI hW => ⟨_, exec_store rfl rfl rfl (run_store_part hW rfl rfl HO.out), only_setRow hW⟩
                      go_simp
                      (apply SeqF.pure; (focus (first | rfl | (go_simp; done) | (simp [Region.wanted, yielded]; done))); (focus (intro w; go_simp; with_reducible rfl)); go_simp)
                      apply SeqF.done
                      intro w9 hI9
                      have hT9 := HT.out.below hI9.belowOf
                      have hA9 := (hI9.far A (lt_of_heap HA.out) (fun h => h)).trans HA.out
                      have hV9 := HV.out.below hI9.belowOf
                      clear hI9 HT HA HV HX HO hM hE
                      have HT := Lib.hid hT9
                      have HA := Lib.hid hA9
                      have HV := Lib.hid hV9
                      clear hT9 hA9 hV9
                      go_simp
                      obtain ⟨s2, hs2⟩ : ∃ s2, s1 = s2 := ⟨_, rfl⟩
                      obtain ⟨vc, hvc⟩ : ∃ vc, v = vc := ⟨_, rfl⟩
                      have HAD2 : Hid (addS s1 ⟨n, last, vc, bs⟩ = s2) := Lib.hid ((HAD.out vc).trans hs2)
                      have HS2 : Hid (JOk s2) := Lib.hid (by rw [← hs2]; exact HS1.out)
                      clear HAD
                      have HAD := HAD2
                      rw [hs2] at HT
                      have HNEW : Hid (∀ q ∈ s2.L, q ∈ L ∨ ∀ b, q.v.ownBlock = some b → w.heap.size ≤ b) := Lib.hid (fun q hq => .inl (HN1.out q (by rw [hs2]; exact hq)))
                      clear hvc HAD2
                      obtain ⟨r, hr⟩ : ∃ r, wholeF s2.L 256 0 [] = r := ⟨_, rfl⟩
                      have HW := Lib.hid hr
                      clear hr
                      have hsz : w.heap.size ≤ w9.heap.size := HT.out.fr.size
                      have c0 := HT.out.j.cell.1
                      go_wp2_with fail
                      refine (whole_any J M s2 w9 HT.out.j (fun p hp => (HS2.out.part p hp).1)).mono ?_
                      rintro e w4 ⟨⟨vr, rfl, ho⟩, hb4⟩
                      rw [HW.out] at ho ⊢
                      have hT4 := HT.out.below hb4
                      clear hb4 HT c0
                      have HT := Lib.hid hT4
                      clear hT4
                      have hlt := HT.out.lt
                      have HO := Lib.hid ho
                      cases r with
                      | none =>
                        replace ho : OwB w4 w9.heap.size vr [] := ho
                        replace HO : Hid (OwB w4 w9.heap.size vr []) := HO
                        obtain ⟨A5, c5, hv5⟩ := ho.slice
                        subst hv5
                        have HE : Hid (endS s2 = s2) := Lib.hid (by simp [endS, HW.out])
                        clear ho
                        go_wp2_with fail
                        refine bodyPost_ret (v := .tuple #[.slice A5 0 c5, .bool false, .int .i64 0]) (by simp [results, Try.results8, go_sem]) rfl ⟨.slice A5 0 c5, vc, ?_, ?_, ?_, HT.out.fr, ?_⟩
                        · simp [takeR, HM.out, HST.out, errT, HF.out, HAD.out, HW.out]
                        · simp only [takeR, HM.out, HST.out, HF.out, HAD.out, HW.out]
                          exact HO.out.mono (by omega)
                        · simp only [takeS, HM.out, HST.out, HF.out, HAD.out]
                          simp only [if_true, Bool.false_eq_true, if_false, HE.out]
                          exact HT.out.j
                        · simp only [takeS, HM.out, HST.out, HF.out, HAD.out]
                          simp only [if_true, Bool.false_eq_true, if_false, HE.out]
                          exact fun q hq => (HNEW.out q hq).imp (fun h => h) (fun h b hb => by have := h b hb; omega)
                      | some acc =>
                        replace ho : OwB w4 w9.heap.size vr acc := ho
                        replace HO : Hid (OwB w4 w9.heap.size vr acc) := HO
                        obtain ⟨A5, c5, hv5⟩ := ho.slice
                        subst hv5
                        obtain ⟨es4, k4, hM4, -⟩ := HT.out.j.hM
                        have c0 := HT.out.j.cell.1
                        clear ho
                        go_wp2_with (with_reducible refine wpList_clear rfl (.tmp 123) rfl rfl hM4 ?_)
                        intro w5 h5
                        have HT5 := Lib.hid (HT.out.cleared hM4 h5)
                        have HO5 : Hid (OwB w5 w9.heap.size (.slice A5 _ c5) acc) := Lib.hid (HO.out.keep fun b h1 h2 => h5.far b (by have := (HO.out.own_blk h1).1; have := HT.out.fr.size; omega))
                        clear HT hM4 h5 c0 HO
                        have c3 := HT5.out.j.cell.2.2.2.1
                        have c4 := HT5.out.j.cell.2.2.2.2
                        have g3 := frozen_of_row w5 J 3 _ _ HT5.out.j.hJ
                        have g4 := frozen_of_row w5 J 4 _ _ HT5.out.j.hJ
                        have hT6 := HT5.out.setJ (s' := { s2 with L := [], ended := true }) (i := 3) (v := .bool true) rfl rfl (.inl rfl)
                        have HT7 := Lib.hid (hT6.setJ (s' := { s2 with L := [], ended := true, bytes := 0 }) (i := 4) (v := .int .i64 0) rfl rfl (.inl rfl))
                        have HE : Hid (endS s2 = { s2 with L := [], ended := true, bytes := 0 }) := Lib.hid (by simp [endS, HW.out])
                        have HO7 : Hid (OwB ((w5.setCell ⟨J, 3, none⟩ (.bool true)).setCell ⟨J, 4, none⟩ (.int .i64 0)) w9.heap.size (.slice A5 _ c5) acc) := Lib.hid (HO5.out.keep fun b h1 h2 => by
                          have := (HO5.out.own_blk h1).1
                          rw [heap_setCell_other _ ⟨_, _, _⟩ _ _ (by show b ≠ J; omega), heap_setCell_other _ ⟨_, _, _⟩ _ _ (by show b ≠ J; omega)])
                        clear hT6 HT5 HO5
                        go_wp2_with fail
                        refine bodyPost_ret (v := .tuple #[.slice A5 acc.length c5, .bool true, .int .i64 0]) (by simp [results, Try.results8, go_sem]) rfl ⟨.slice A5 acc.length c5, vc, ?_, ?_, ?_, HT7.out.fr, ?_⟩
                        · simp [takeR, HM.out, HST.out, errT, HF.out, HAD.out, HW.out]
                        · simp only [takeR, HM.out, HST.out, HF.out, HAD.out, HW.out]
                          exact HO7.out.mono (by omega)
                        · simp only [takeS, HM.out, HST.out, HF.out, HAD.out]
                          simp only [if_true, Bool.false_eq_true, if_false, HE.out]
                          exact HT7.out.j
                        · simp only [takeS, HM.out, HST.out, HF.out, HAD.out]
                          simp only [if_true, Bool.false_eq_true, if_false, HE.out]
                          exact fun q hq => by cases hq
                    case hl => rfl
                    case ho => kernel_rfl
                  | none =>
                    have HO : Hid ((#[.int .u64 0, .int .i64 0, .bool false, .slice none 0 0] : Array Value).all (·.oneCell') = true) := Lib.hid (by simp [Value.oneCell'])
                    have HX : Hid ((match findL n s1.L with | some p => Value.tuple #[p.val id, .bool true] | none => .tuple #[partV 0 0 false (.slice none 0 0), .bool false]) = .tuple #[.agg #[.int .u64 0, .int .i64 0, .bool false, .slice none 0 0], .bool false]) := Lib.hid (by rw [hfd]; rfl)
                    have HFD := Lib.hid hfd
                    clear hfd
                    apply wp_region_eff _ _ (Inv.start0 W1 fun _ => False) (hm := by kernel_rfl)
                    case h =>
                      (apply SeqF.pure; (focus (first | rfl | (go_simp; done) | (simp [Region.wanted, yielded]; done))); (focus (intro w; go_simp; with_reducible rfl)); go_simp)
                      (apply SeqF.pure; (focus (first | rfl | (go_simp; done) | (simp [Region.wanted, yielded]; done))); (focus (intro w; go_simp; with_reducible rfl)); go_simp)
                      (apply SeqF.pure; (focus (first | rfl | (go_simp; done) | (simp [Region.wanted, yielded]; done))); (focus (intro w; go_simp; with_reducible rfl)); go_simp)
                      apply SeqF.read (v := .map (some M)) []
                      · (first | rfl | (go_simp; done) | (simp [Region.wanted, yielded]; done))
                      · intro γ' W hg hI
                        have x0 := (HT.out.j.below hI.belowOf).cell.1
                        go_simp
                      go_simp
                      apply SeqF.read (v := .agg #[.int .u64 id, .int .i64 n]) []
                      · (first | rfl | (go_simp; done) | (simp [Region.wanted, yielded]; done))
                      · exact fun γ' W hg hI => exec_load rfl rfl (run_load_blk placeInfo placeRow ((hI.far A (lt_of_heap HA.out) (fun h => h)).trans HA.out))
                      go_simp
                      apply SeqF.read (v := .tuple #[.agg #[.int .u64 0, .int .i64 0, .bool false, .slice none 0 0], .bool false]) []
                      · (first | rfl | (go_simp; done) | (simp [Region.wanted, yielded]; done))
                      · intro γ' W hg hI
                        rw [← HX.out]
                        exact exec_look rfl rfl rfl ((hI.far M (lt_of_heap hM) (fun h => h)).trans hM) hE
                      go_simp
                      (apply SeqF.pure; (focus (first | rfl | (go_simp; done) | (simp [Region.wanted, yielded]; done))); (focus (intro w; go_simp; with_reducible rfl)); go_simp)
                      (apply SeqF.pure; (focus (first | rfl | (go_simp; done) | (simp [Region.wanted, yielded]; done))); (focus (intro w; go_simp; with_reducible rfl)); go_simp)
                      (apply SeqF.pure; (focus (first | rfl | (go_simp; done) | (simp [Region.wanted, yielded]; done))); (focus (intro w; go_simp; with_reducible rfl)); go_simp)
                      apply SeqF.new [] 0 (fun g => .pointer (some ⟨g, 0, none⟩)) (fun _ => .cells #[.int .u64 0, .int .i64 0, .bool false, .slice none 0 0] 33 (0, 0))
                      · intro γ' _; rfl
                      · (first | rfl | (go_simp; done) | (simp [Region.wanted, yielded]; done))
                      · intro γ' V hg hI; kernel_rfl
                      intro X hX
                      go_simp
                      apply SeqF.store [0] 0 X (.cells #[.int .u64 0, .int .i64 0, .bool false, .slice none 0 0] 33 (0, 0)) (Gh.set_here _ _ _) (by simp) (fun _ => .cells #[.int .u64 0, .int .i64 0, .bool false, .slice none 0 0] 33 (0, 0))
                      · exact fun _ _ => rfl
                      · (first | rfl | (go_simp; done) | (simp [Region.wanted, yielded]; done))
                      · exact fun γ' W hg hI hW => ⟨_, exec_store rfl rfl rfl (run_store_part hW rfl rfl HO.out), only_setRow hW⟩
                      go_simp
                      (apply SeqF.pure; (focus (first | rfl | (go_simp; done) | (simp [Region.wanted, yielded]; done))); (focus (intro w; go_simp; with_reducible rfl)); go_simp)
                      apply SeqF.done
                      intro w9 hI9
                      have hT9 := HT.out.below hI9.belowOf
                      have hA9 := (hI9.far A (lt_of_heap HA.out) (fun h => h)).trans HA.out
                      have hV9 := HV.out.below hI9.belowOf
                      clear hI9 HT HA HV HX HO hM hE
                      have HT := Lib.hid hT9
                      have HA := Lib.hid hA9
                      have HV := Lib.hid hV9
                      clear hT9 hA9 hV9
                      go_simp
                      have b3 := HT.out.cellB (i := 3) rfl
                      go_wp2_with fail
                      refine (clone_bytes v bs w9 HV.out).mono ?_
                      rintro e wc ⟨⟨vc, rfl, ho⟩, hb⟩
                      have hTc := HT.out.below hb
                      have hAc := (hb.block A (lt_of_heap HA.out)).trans HA.out
                      have hbb : BB wc vc bs := ho.rd HV.out.ok HV.out.len
                      have hsz9 : B < w9.heap.size := lt_of_heap HT.out.hB
                      have HOwn : Hid (∀ b, vc.ownBlock = some b → w9.heap.size ≤ b) := Lib.hid (fun b h => (ho.own_blk h).1)
                      obtain ⟨A3, c3, hv3⟩ := ho.slice
                      clear hb b3 HT HA HV ho
                      have b3 := hTc.cellB (i := 3) rfl
                      have g3 := frozen_of_row wc B 3 _ _ hTc.hB
                      have hTd := hTc.setB (i := 3) (v := vc) (row' := #[.int .u64 id, .int .i64 n, .bool last, vc]) rfl
                      have hlt := hTc.lt
                      have hbd : BB (wc.setCell ⟨B, 3, none⟩ vc) vc bs := hbb.keep fun b h1 h2 h3 => heap_setCell_other _ ⟨_, _, _⟩ _ _ (by have := HOwn.out b h2; show b ≠ B; omega)
                      have hAd : (wc.setCell ⟨B, 3, none⟩ vc).heap[A]? = some (.cells #[.int .u64 id, .int .i64 n] 62 (0, 0)) := (heap_setCell_other _ ⟨_, _, _⟩ _ _ (by show A ≠ B; omega)).trans hAc
                      subst hv3
                      clear hTc hAc hbb
                      have HTd := Lib.hid hTd
                      have HAd := Lib.hid hAd
                      have HBd := Lib.hid hbd
                      clear hTd hAd hbd
                      go_wp2_with fail
                      generalize wc.setCell ⟨B, 3, none⟩ (.slice A3 bs.length c3) = W2 at *
                      obtain ⟨es2, k2, hM2, hE2⟩ := HTd.out.j.hM
                      rw [HID.out] at hE2
                      have HT := HTd
                      have HA := HAd
                      have hJM := HT.out.j.ne
                      clear HTd HAd g3 b3
                      apply wp_region_eff _ _ (Inv.start2 hM2 rfl (by rintro g o h; cases h) : Inv W2 (fun g => g = M) (gh2 (some (M, .map es2 k2)) none) W2.drew) (hm := by kernel_rfl)
                      case h =>
                        (apply SeqF.pure; (focus (first | rfl | (go_simp; done) | (simp [Region.wanted, yielded]; done))); (focus (intro w; go_simp; with_reducible rfl)); go_simp)
                        (apply SeqF.pure; (focus (first | rfl | (go_simp; done) | (simp [Region.wanted, yielded]; done))); (focus (intro w; go_simp; with_reducible rfl)); go_simp)
                        (apply SeqF.pure; (focus (first | rfl | (go_simp; done) | (simp [Region.wanted, yielded]; done))); (focus (intro w; go_simp; with_reducible rfl)); go_simp)
                        apply SeqF.read (v := .map (some M)) []
                        · (first | rfl | (go_simp; done) | (simp [Region.wanted, yielded]; done))
                        · intro γ' W hg hI
                          have x0 : W.cell? ⟨J, 0, none⟩ = some (.map (some M)) := (cell_of_row _ _ _ _ _ _ ((hI.far J (lt_of_heap HT.out.j.hJ) hJM).trans HT.out.j.hJ)).trans rfl
                          go_simp
                        go_simp
                        apply SeqF.read (v := .agg #[.int .u64 id, .int .i64 n]) []
                        · (first | rfl | (go_simp; done) | (simp [Region.wanted, yielded]; done))
                        · exact fun γ' W hg hI => exec_load rfl rfl (run_load_blk placeInfo placeRow ((hI.far A (lt_of_heap HA.out) (by omega)).trans HA.out))
                        go_simp
                        apply SeqF.read (v := .agg #[.int .u64 id, .int .i64 n, .bool last, .slice A3 bs.length c3]) []
                        · (first | rfl | (go_simp; done) | (simp [Region.wanted, yielded]; done))
                        · exact fun γ' W hg hI => exec_load rfl rfl (run_load_blk partInfo partRow ((hI.far B (lt_of_heap HT.out.hB) (by omega)).trans HT.out.hB))
                        go_simp
                        apply SeqF.store [0] 0 M (.map es2 k2) rfl (by simp) (fun _ => .map (es2.push ⟨keyP id n, HP.val id ⟨n, last, .slice A3 bs.length c3, bs⟩, k2⟩) (k2 + 1))
                        · exact fun _ _ => rfl
                        · (first | rfl | (go_simp; done) | (simp [Region.wanted, yielded]; done))
                        · exact fun γ' W hg hI hW => exec_put (p := ⟨n, last, .slice A3 bs.length c3, bs⟩) rfl rfl rfl rfl hE2 HFD.out hW
                        go_simp
                        apply SeqF.done
                        intro w9' hI9
                        have hT9 := HT.out.invM (s' := { s1 with L := s1.L ++ [⟨n, last, .slice A3 bs.length c3, bs⟩] }) hI9 (Gh.set_here _ _ _) (by
                          show Ents s1.id _ _
                          rw [HID.out, Array.toList_push]
                          exact Ents.push (p := ⟨n, last, .slice A3 bs.length c3, bs⟩) (k := k2) hE2) rfl (by
                          intro p hp
                          rcases List.mem_append.1 hp with hp | hp
                          · exact HT.out.j.hP p hp
                          · obtain rfl := List.mem_singleton.1 hp
                            exact ⟨HBd.out, fun b h1 h2 => by have := HOwn.out b h2; omega⟩) (by
                          intro p hp
                          rcases List.mem_append.1 hp with hp | hp
                          · exact HT.out.ap p hp
                          · obtain rfl := List.mem_singleton.1 hp
                            exact fun b h1 h2 => by have := HOwn.out b h2; omega)
                        have hbl2 : bs.length ≤ 1024 ∧ 0 ≤ n ∧ n < 256 := by
                          have h := HM.out
                          simp only [mayB, Bool.and_eq_true, decide_eq_true_eq] at h
                          exact ⟨h.2.2.1, h.1, h.2.1⟩
                        have hby := HS1.out.bytes
                        have hwb : IntKind.i64.wrap (s1.bytes + (bs.length : Int)) = s1.bytes + (bs.length : Int) := IntWalk.i64_in _ (by omega)
                        have HAD0 : Hid (addS s1 ⟨n, last, .slice A3 bs.length c3, bs⟩ = { s1 with L := s1.L ++ [⟨n, last, .slice A3 bs.length c3, bs⟩], bytes := s1.bytes + (bs.length : Int) }) := Lib.hid (by simp [addS, HFD.out])
                        have HNEW0 : Hid (∀ q ∈ s1.L ++ [(⟨n, last, .slice A3 bs.length c3, bs⟩ : HP)], q ∈ L ∨ ∀ b, q.v.ownBlock = some b → w.heap.size ≤ b) := Lib.hid (by
                          intro q hq
                          rcases List.mem_append.1 hq with hq | hq
                          · exact .inl (HN1.out q hq)
                          · obtain rfl := List.mem_singleton.1 hq
                            exact .inr (fun b h2 => by have := HOwn.out b h2; omega))
                        have HS2 : Hid (JOk { s1 with L := s1.L ++ [⟨n, last, .slice A3 bs.length c3, bs⟩], bytes := s1.bytes + (bs.length : Int) }) := Lib.hid (by rw [← HAD0.out]; exact HS1.out.add hbl2.1 hbl2.2.1 hbl2.2.2)
                        clear hI9 HT HA hM2 hE2 HBd HOwn hby hbl2
                        have HT := Lib.hid hT9
                        clear hT9
                        go_simp
                        go_wp2_with fail
                        apply wp_region_eff _ _ HT.out.startJ (hm := by kernel_rfl)
                        case h =>
                          (apply SeqF.pure; (focus (first | rfl | (go_simp; done) | (simp [Region.wanted, yielded]; done))); (focus (intro w; go_simp; with_reducible rfl)); go_simp)
                          (apply SeqF.pure; (focus (first | rfl | (go_simp; done) | (simp [Region.wanted, yielded]; done))); (focus (intro w; go_simp; with_reducible rfl)); go_simp)
                          (apply SeqF.pure; (focus (first | rfl | (go_simp; done) | (simp [Region.wanted, yielded]; done))); (focus (intro w; go_simp; with_reducible rfl)); go_simp)
                          apply SeqF.read (v := .int .i64 s1.bytes) [0]
                          · (first | rfl | (go_simp; done) | (simp [Region.wanted, yielded]; done))
                          · intro γ' W hg hI
                            have x0 : W.cell? ⟨J, 4, none⟩ = some (.int .i64 s1.bytes) := (cell_of_row _ _ _ _ _ _ (hI.here 0 J _ ((hg 0 (by simp)).trans rfl)).1).trans rfl
                            go_simp
                          go_simp
                          (apply SeqF.pure; (focus (first | rfl | (go_simp; done) | (simp [Region.wanted, yielded]; done))); (focus (intro w; go_simp; with_reducible rfl)); go_simp)
                          apply SeqF.read (v := .slice A3 bs.length c3) []
                          · (first | rfl | (go_simp; done) | (simp [Region.wanted, yielded]; done))
                          · intro γ' W hg hI
                            have x0 : W.cell? ⟨B, 3, none⟩ = some (.slice A3 bs.length c3) := (cell_of_row _ _ _ _ _ _ ((hI.far B (lt_of_heap HT.out.hB) (by omega)).trans HT.out.hB)).trans rfl
                            go_simp
                          go_simp
                          (apply SeqF.pure; (focus (first | rfl | (go_simp; done) | (simp [Region.wanted, yielded]; done))); (focus (intro w; go_simp; with_reducible rfl)); go_simp)
                          (apply SeqF.pure; (focus (first | rfl | (go_simp; done) | (simp [Region.wanted, yielded]; done))); (focus (intro w; go_simp; with_reducible rfl)); go_simp)
                          (apply SeqF.pure; (focus (first | rfl | (go_simp; done) | (simp [Region.wanted, yielded]; done))); (focus (intro w; go_simp; with_reducible rfl)); go_simp)
                          (apply SeqF.pure; (focus (first | rfl | (go_simp; done) | (simp [Region.wanted, yielded]; done))); (focus (intro w; go_simp; with_reducible rfl)); go_simp)
                          apply SeqF.store [0] 0 J _ rfl (by simp) (fun _ => .cells (jrow M { s1 with L := s1.L ++ [⟨n, last, .slice A3 bs.length c3, bs⟩], bytes := s1.bytes + (bs.length : Int) }) 60 (0, 0))
                          · exact fun _ _ => rfl
                          · (first | rfl | (go_simp; done) | (simp [Region.wanted, yielded]; done))
                          · exact fun γ' W hg hI hW => exec_st1 (i := 4) (st_int (s1.bytes + (bs.length : Int))) rfl rfl rfl (by simp [jrow]) rfl hW
                          go_simp
                          apply SeqF.done
                          intro w9 hI9
                          have hT9 := HT.out.invJ (s' := { s1 with L := s1.L ++ [⟨n, last, .slice A3 bs.length c3, bs⟩], bytes := s1.bytes + (bs.length : Int) }) hI9 (Gh.set_here _ _ _) rfl (.inr rfl)
                          clear hI9 HT hwb
                          have HT := Lib.hid hT9
                          clear hT9
                          go_simp
                          obtain ⟨s2, hs2⟩ : ∃ s2, ({ s1 with L := s1.L ++ [⟨n, last, .slice A3 bs.length c3, bs⟩], bytes := s1.bytes + (bs.length : Int) } : JS) = s2 := ⟨_, rfl⟩
                          obtain ⟨vc, hvc⟩ : ∃ vc, Value.slice A3 bs.length c3 = vc := ⟨_, rfl⟩
                          have HNEW : Hid (∀ q ∈ s2.L, q ∈ L ∨ ∀ b, q.v.ownBlock = some b → w.heap.size ≤ b) := Lib.hid (by rw [← hs2]; exact HNEW0.out)
                          rw [hs2] at HS2 HAD0 HT
                          have HAD : Hid (addS s1 ⟨n, last, vc, bs⟩ = s2) := Lib.hid (by rw [← hvc]; exact HAD0.out)
                          clear hs2 hvc HAD0 HNEW0
                          obtain ⟨r, hr⟩ : ∃ r, wholeF s2.L 256 0 [] = r := ⟨_, rfl⟩
                          have HW := Lib.hid hr
                          clear hr
                          have hsz : w.heap.size ≤ w9.heap.size := HT.out.fr.size
                          have c0 := HT.out.j.cell.1
                          go_wp2_with fail
                          refine (whole_any J M s2 w9 HT.out.j (fun p hp => (HS2.out.part p hp).1)).mono ?_
                          rintro e w4 ⟨⟨vr, rfl, ho⟩, hb4⟩
                          rw [HW.out] at ho ⊢
                          have hT4 := HT.out.below hb4
                          clear hb4 HT c0
                          have HT := Lib.hid hT4
                          clear hT4
                          have hlt := HT.out.lt
                          have HO := Lib.hid ho
                          cases r with
                          | none =>
                            replace ho : OwB w4 w9.heap.size vr [] := ho
                            replace HO : Hid (OwB w4 w9.heap.size vr []) := HO
                            obtain ⟨A5, c5, hv5⟩ := ho.slice
                            subst hv5
                            have HE : Hid (endS s2 = s2) := Lib.hid (by simp [endS, HW.out])
                            clear ho
                            go_wp2_with fail
                            refine bodyPost_ret (v := .tuple #[.slice A5 0 c5, .bool false, .int .i64 0]) (by simp [results, Try.results8, go_sem]) rfl ⟨.slice A5 0 c5, vc, ?_, ?_, ?_, HT.out.fr, ?_⟩
                            · simp [takeR, HM.out, HST.out, errT, HF.out, HAD.out, HW.out]
                            · simp only [takeR, HM.out, HST.out, HF.out, HAD.out, HW.out]
                              exact HO.out.mono (by omega)
                            · simp only [takeS, HM.out, HST.out, HF.out, HAD.out]
                              simp only [if_true, Bool.false_eq_true, if_false, HE.out]
                              exact HT.out.j
                            · simp only [takeS, HM.out, HST.out, HF.out, HAD.out]
                              simp only [if_true, Bool.false_eq_true, if_false, HE.out]
                              exact fun q hq => (HNEW.out q hq).imp (fun h => h) (fun h b hb => by have := h b hb; omega)
                          | some acc =>
                            replace ho : OwB w4 w9.heap.size vr acc := ho
                            replace HO : Hid (OwB w4 w9.heap.size vr acc) := HO
                            obtain ⟨A5, c5, hv5⟩ := ho.slice
                            subst hv5
                            obtain ⟨es4, k4, hM4, -⟩ := HT.out.j.hM
                            have c0 := HT.out.j.cell.1
                            clear ho
                            go_wp2_with (with_reducible refine wpList_clear rfl (.tmp 123) rfl rfl hM4 ?_)
                            intro w5 h5
                            have HT5 := Lib.hid (HT.out.cleared hM4 h5)
                            have HO5 : Hid (OwB w5 w9.heap.size (.slice A5 _ c5) acc) := Lib.hid (HO.out.keep fun b h1 h2 => h5.far b (by have := (HO.out.own_blk h1).1; have := HT.out.fr.size; omega))
                            clear HT hM4 h5 c0 HO
                            have c3 := HT5.out.j.cell.2.2.2.1
                            have c4 := HT5.out.j.cell.2.2.2.2
                            have g3 := frozen_of_row w5 J 3 _ _ HT5.out.j.hJ
                            have g4 := frozen_of_row w5 J 4 _ _ HT5.out.j.hJ
                            have hT6 := HT5.out.setJ (s' := { s2 with L := [], ended := true }) (i := 3) (v := .bool true) rfl rfl (.inl rfl)
                            have HT7 := Lib.hid (hT6.setJ (s' := { s2 with L := [], ended := true, bytes := 0 }) (i := 4) (v := .int .i64 0) rfl rfl (.inl rfl))
                            have HE : Hid (endS s2 = { s2 with L := [], ended := true, bytes := 0 }) := Lib.hid (by simp [endS, HW.out])
                            have HO7 : Hid (OwB ((w5.setCell ⟨J, 3, none⟩ (.bool true)).setCell ⟨J, 4, none⟩ (.int .i64 0)) w9.heap.size (.slice A5 _ c5) acc) := Lib.hid (HO5.out.keep fun b h1 h2 => by
                              have := (HO5.out.own_blk h1).1
                              rw [heap_setCell_other _ ⟨_, _, _⟩ _ _ (by show b ≠ J; omega), heap_setCell_other _ ⟨_, _, _⟩ _ _ (by show b ≠ J; omega)])
                            clear hT6 HT5 HO5
                            go_wp2_with fail
                            refine bodyPost_ret (v := .tuple #[.slice A5 acc.length c5, .bool true, .int .i64 0]) (by simp [results, Try.results8, go_sem]) rfl ⟨.slice A5 acc.length c5, vc, ?_, ?_, ?_, HT7.out.fr, ?_⟩
                            · simp [takeR, HM.out, HST.out, errT, HF.out, HAD.out, HW.out]
                            · simp only [takeR, HM.out, HST.out, HF.out, HAD.out, HW.out]
                              exact HO7.out.mono (by omega)
                            · simp only [takeS, HM.out, HST.out, HF.out, HAD.out]
                              simp only [if_true, Bool.false_eq_true, if_false, HE.out]
                              exact HT7.out.j
                            · simp only [takeS, HM.out, HST.out, HF.out, HAD.out]
                              simp only [if_true, Bool.false_eq_true, if_false, HE.out]
                              exact fun q hq => by cases hq
                        case hl => rfl
                        case ho => kernel_rfl
                      case hl => rfl
                      case ho => kernel_rfl
                    case hl => rfl
                    case ho => kernel_rfl
              case hl => rfl
              case ho => kernel_rfl
            case hl => rfl
            case ho => kernel_rfl
          case hl => rfl
          case ho => kernel_rfl
end Go.Proofs.Ytnhhibdkojgnlaa
