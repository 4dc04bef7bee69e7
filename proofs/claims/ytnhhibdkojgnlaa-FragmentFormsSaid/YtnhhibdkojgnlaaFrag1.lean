/- What is proved: laws on a map whose keys are an Id and a number; conditions: those typed. -/
import Derived.Test.YtnhhibdkojgnlaaBlk
import Derived.Test.YtnhhibdkojgnlaaClone
import Derived.Test.YtnhhibdkojgnlaaGrow
import Derived.Maps.Keyed
import Derived.Laws.StructEq
set_option linter.unusedSimpArgs false
set_option linter.unusedVariables false
namespace Go.Proofs.Ytnhhibdkojgnlaa
open Go.RowKit
open Go.ChangeMaps (setBlock heap_setBlock_same heap_setBlock_other)
set_option maxRecDepth 100000
set_option maxHeartbeats 4000000
/-- A part that is held: its number, whether it is the last, its bytes and their slice. -/
structure HP where
  n : Int
  last : Bool
  v : Value
  bs : List Int
def keyP (id n : Int) : Value := .agg #[.int .u64 id, .int .i64 n]
def partV (id n : Int) (last : Bool) (v : Value) : Value := .agg #[.int .u64 id, .int .i64 n, .bool last, v]
def HP.val (id : Int) (p : HP) : Value := partV id p.n p.last p.v
/-- The entries are those of the list. -/
def Ents (id : Int) : List MapEntry → List HP → Prop
  | [], [] => True
  | e :: es, p :: ps => e.key = keyP id p.n ∧ e.val = p.val id ∧ Ents id es ps
  | _, _ => False
theorem Ents.len {id : Int} : ∀ {es : List MapEntry} {L : List HP}, Ents id es L → es.length = L.length
  | [], [], _ => rfl
  | _ :: es, _ :: ps, h => by simp [Ents.len h.2.2]
theorem Ents.push {id : Int} {p : HP} {k : Nat} : ∀ {es : List MapEntry} {L : List HP}, Ents id es L → Ents id (es ++ [⟨keyP id p.n, p.val id, k⟩]) (L ++ [p])
  | [], [], _ => ⟨rfl, rfl, trivial⟩
  | _ :: es, _ :: ps, h => ⟨h.1, h.2.1, Ents.push h.2.2⟩
def findL (n : Int) (L : List HP) : Option HP := L.find? fun p => p.n == n
theorem eq_key (id a b : Int) (w : World) : (Op.equal 62 (keyP id a) (keyP id b)).run Try.prog w = .ok (a == b) w := by
  have h : (Op.equal 62 (keyP id a) (keyP id b)).run Try.prog w = (Op.equalIn 10000 62 (.agg #[.int .u64 id, .int .i64 a]) (.agg #[.int .u64 id, .int .i64 b])).run Try.prog w := rfl
  rw [h]
  by_cases h : a = b
  · go_simp
  · go_simp
theorem run_asking (id n : Int) (w : World) : ∀ (es : List MapEntry) (L : List HP) (i : Nat), Ents id es L →
    ((Instr.findAsking 62 (keyP id n) es i).run Try.prog w = .ok none w ∧ findL n L = none) ∨ ∃ j p, (Instr.findAsking 62 (keyP id n) es i).run Try.prog w = .ok (some (j, p.val id)) w ∧ findL n L = some p
  | [], [], _, _ => .inl ⟨rfl, rfl⟩
  | e :: es, p :: ps, i, h => by
    have h1 := eq_key id n p.n w
    unfold Instr.findAsking findL
    simp only [List.find?_cons, h.1, Sem.run_bind, h1, Result.andThen_ok]
    by_cases hn : n = p.n
    · right
      refine ⟨i, p, ?_, ?_⟩
      · simp [hn, h.2.1]
      · simp [hn]
    · have e1 : (n == p.n) = false := by simpa using hn
      have e2 : (p.n == n) = false := by simpa using fun h => hn h.symm
      rw [e1, e2]
      exact run_asking id n w es ps (i + 1) h.2.2
theorem check_key (id n : Int) (w : World) (em : Bool) : (Instr.checkKey em 10000 62 (keyP id n)).run Try.prog w = .ok () w := by
  unfold keyP
  kernel_rfl
theorem run_findKey (id n : Int) (w : World) (es : List MapEntry) (L : List HP) (h : Ents id es L) :
    ((Instr.findKey 62 (keyP id n) es).run Try.prog w = .ok none w ∧ findL n L = none) ∨ ∃ j p, (Instr.findKey 62 (keyP id n) es).run Try.prog w = .ok (some (j, p.val id)) w ∧ findL n L = some p := by
  have hu := Try.underlying62
  unfold Instr.findKey
  match es, L, h with
  | [], [], _ =>
    left
    refine ⟨?_, rfl⟩
    simp only [Sem.run_bind, run_underlying hu, Result.andThen_ok, Instr.findNow, Sem.run_pure]
  | e :: es, p :: ps, h =>
    have h1 := run_asking id n w (e :: es) (p :: ps) 0 h
    simp only [Sem.run_bind, run_underlying hu, Result.andThen_ok, Instr.findNow, Instr.sameNow]
    exact h1
theorem zero_part (w : World) : (zeroValue 33).run Try.prog w = .ok (partV 0 0 false (.slice none 0 0)) w := by kernel_rfl
/-- 'v, ok := m[k]'. -/
theorem run_look (id n : Int) (w : World) {M : Nat} {es : Array MapEntry} {k : Nat} {L : List HP} (hM : w.heap[M]? = some (.map es k)) (h : Ents id es.toList L) :
    (Instr.lookup 58 (.map (some M)) (keyP id n) true).run Try.prog w = .ok (match findL n L with | some p => .tuple #[p.val id, .bool true] | none => .tuple #[partV 0 0 false (.slice none 0 0), .bool false]) w := by
  have hu := Try.underlying58
  unfold Instr.lookup
  simp only [Sem.run_bind, run_underlying hu, Result.andThen_ok, MapKept.run_getObj_map hM, Sem.run_pure, check_key]
  rcases run_findKey id n w es.toList L h with ⟨h1, h2⟩ | ⟨j, p, h1, h2⟩
  · rw [h2]
    simp only [h1, Result.andThen_ok, Sem.run_bind, zero_part, Sem.run_pure, if_true]
  · rw [h2]
    simp only [h1, Result.andThen_ok, Sem.run_bind, Sem.run_pure, if_true]
/-- 'm[k] = v', a new key. -/
theorem run_put (id : Int) (p : HP) (w : World) {M : Nat} {es : Array MapEntry} {k : Nat} {L : List HP} (hM : w.heap[M]? = some (.map es k)) (h : Ents id es.toList L) (hf : findL p.n L = none) :
    (Instr.mapUpdate 58 (.map (some M)) (keyP id p.n) (p.val id)).run Try.prog w = .ok () (setBlock w M (.map (es.push ⟨keyP id p.n, p.val id, k⟩) (k + 1))) := by
  have hu := Try.underlying58
  unfold Instr.mapUpdate
  simp only [Sem.run_bind, run_underlying hu, Result.andThen_ok, MapKept.run_getObj_map hM, Sem.run_pure, check_key]
  rcases run_findKey id p.n w es.toList L h with ⟨h1, h2⟩ | ⟨j, q, h1, h2⟩
  · simp only [h1, Result.andThen_ok, MapKept.run_setObj_map _ hM]
    rfl
  · rw [hf] at h2
    cases h2
/-- 'clear'. -/
theorem run_clear (w : World) {M : Nat} {es : Array MapEntry} {k : Nat} {ty : TypeId} (hM : w.heap[M]? = some (.map es k)) :
    (Builtin.clear_ #[58] ty #[.map (some M)]).run Try.prog w = .ok (.tuple #[]) (setBlock w M (.map #[] k)) := by
  have hu := Try.underlying58
  unfold Builtin.clear_
  simp only [List.getElem?_toArray, List.getElem?_cons_zero, Sem.run_bind, run_underlying hu, Result.andThen_ok, MapKept.run_getObj_map hM, MapKept.run_setObj_map _ hM, Sem.run_pure]
  rfl
theorem only_setBlock {w : World} {g : Nat} {o o' : Obj} (h : w.heap[g]? = some o) : Only g o' w (setBlock w g o') := by
  have hl := lt_of_heap h
  constructor
  all_goals first | rfl | (simp [setBlock]; done) | (intro k hk; simp [setBlock, Array.getElem?_setIfInBounds, hk.symm]; done) | (intro k hk; simp [setBlock, Array.getElem?_setIfInBounds]; omega) | (simp [setBlock, Array.getElem?_setIfInBounds, hl]; done)
end Go.Proofs.Ytnhhibdkojgnlaa
