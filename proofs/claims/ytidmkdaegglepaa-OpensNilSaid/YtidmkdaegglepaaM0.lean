/- A map of slots to descriptors: what its operations do, at the operations. -/
import Derived.Test.YtidmkdaegglepaaC0
import Derived.Laws.StructEq
import Derived.WideLaws
import Derived.DeepKeys3
import Derived.BigRegion
import Derived.RegionTactic
import Derived.ChangeAlike
import Derived.Deep.RegionHeld3
set_option linter.all false
namespace Go.Proofs.Ytidmkdaegglepaa
open Go.RowKit

structure DE where
  pid : Int
  slot : Int
  kind : Int
  obj : Int
  off : Int
def dc (x : DE) : List Value := [.int .i64 x.pid, .int .i64 x.slot, .int .i64 x.kind, .int .i64 x.obj, .int .i64 x.off]
def da (x : DE) : Array Value := #[.int .i64 x.pid, .int .i64 x.slot, .int .i64 x.kind, .int .i64 x.obj, .int .i64 x.off]
def dz : DE := ⟨0, 0, 0, 0, 0⟩
def kc (p s : Int) : Array Value := #[.int .i64 p, .int .i64 s]
def isAt (p s : Int) (x : DE) : Bool := x.pid == p && x.slot == s
def look (l : List DE) (p s : Int) : Option DE := l.find? (isAt p s)

theorem eqKey (a b c d : Int) (w : World) : (Op.equal 104 (.agg (kc a b)) (.agg (kc c d))).run Try.prog w = .ok (a == c && b == d) w := by
  unfold kc
  show (Op.equalIn 10000 104 _ _).run Try.prog w = _
  have u3 := Try.underlying3
  have a3 := Try.isAgg3
  have z3 := Try.sizeOf3
  have hS : Try.prog.underlying 104 = some (.struct (Try.prog.fieldsOf 104)) := by kernel_rfl
  have hp : Try.prog.stoodInHeld 104 = false := by kernel_rfl
  rw [show (10000 : Nat) = 9999 + 1 from rfl, run_equalIn_agg w 9999 104 _ _ hS hp]
  simp only [Program.fieldsOf, Try.underlying104]
  go_simp
  by_cases h1 : a = c <;> by_cases h2 : b = d <;> simp [h1, h2]
theorem chkInt (em : Bool) (n : Nat) (a : Int) (w : World) : (Instr.checkKey em (n + 1) 3 (.int .i64 a)).run Try.prog w = .ok () w := by
  rw [Instr.checkKey]
  simp only [Sem.run_bind, run_underlying Try.underlying3, Result.andThen_ok]
  rfl
theorem chkKey' (em : Bool) (n : Nat) (a b : Int) (w : World) : (Instr.checkKey em (n + 1 + 1) 104 (.agg (kc a b))).run Try.prog w = .ok () w := by
  unfold kc
  have u3 := Try.underlying3
  have a3 := Try.isAgg3
  have z3 := Try.sizeOf3
  rw [Instr.checkKey]
  simp only [Sem.run_bind, run_underlying Try.underlying104, Result.andThen_ok]
  have hn : ∀ (x : Int) w, (Instr.checkKey em (n + 1) 3 (.int .i64 x)).run Try.prog w = .ok () w := fun x w => chkInt em n x w
  generalize n + 1 = m at hn
  go_simp

def kv (e : MapEntry) : Value × Value := (e.key, e.val)
def kd (x : DE) : Value × Value := (.agg (kc x.pid x.slot), .agg (da x))
/-- The map's entries, read as a list of descriptors. -/
def MR (es : Array MapEntry) (ms : List DE) : Prop := es.toList.map kv = ms.map kd
def fnd (p s : Int) : List DE → Nat → Option (Nat × Value)
  | [], _ => none
  | x :: r, i => if isAt p s x then some (i, .agg (da x)) else fnd p s r (i + 1)
theorem asking (p s : Int) (w : World) : ∀ (l : List MapEntry) (ms : List DE) (i : Nat), l.map kv = ms.map kd → (Instr.findAsking 104 (.agg (kc p s)) l i).run Try.prog w = .ok (fnd p s ms i) w := by
  intro l
  induction l with
  | nil =>
    intro ms i h
    cases ms with
    | nil => rfl
    | cons x r => simp at h
  | cons e l ih =>
    intro ms i h
    cases ms with
    | nil => simp at h
    | cons x r =>
      simp only [List.map_cons, List.cons.injEq] at h
      obtain ⟨h1, h2⟩ := h
      have hk : e.key = .agg (kc x.pid x.slot) := congrArg Prod.fst h1
      have hv : e.val = .agg (da x) := congrArg Prod.snd h1
      rw [Instr.findAsking]
      simp only [Sem.run_bind, hk, eqKey, Result.andThen_ok, hv, fnd, isAt]
      by_cases h3 : p = x.pid
      · by_cases h4 : s = x.slot
        · simp [h3, h4]
        · have : ¬ x.slot = s := fun h => h4 h.symm
          simp [h3, h4, this]
          rw [← h3]
          exact ih r (i + 1) h2
      · have : ¬ x.pid = p := fun h => h3 h.symm
        simp [h3, this, ih r (i + 1) h2]
theorem findKey_run (p s : Int) (w : World) (es : Array MapEntry) (ms : List DE) (h : MR es ms) : (Instr.findKey 104 (.agg (kc p s)) es.toList).run Try.prog w = .ok (fnd p s ms 0) w := by
  rw [run_findKey_eq w (k := 104) (by kernel_rfl)]
  exact asking p s w _ _ 0 h
theorem fnd_look (p s : Int) : ∀ (ms : List DE) (i : Nat), (fnd p s ms i = none ∧ look ms p s = none) ∨ ∃ j x, fnd p s ms i = some (i + j, .agg (da x)) ∧ look ms p s = some x ∧ ms[j]? = some x := by
  intro ms
  induction ms with
  | nil => intro i; exact .inl ⟨rfl, rfl⟩
  | cons x r ih =>
    intro i
    by_cases h : isAt p s x = true
    · exact .inr ⟨0, x, by simp [fnd, h], by simp [look, h], rfl⟩
    · rcases ih (i + 1) with ⟨h1, h2⟩ | ⟨j, y, h1, h2, h3⟩
      · exact .inl ⟨by simp [fnd, h, h1], by simpa [look, h] using h2⟩
      · exact .inr ⟨j + 1, y, by simp [fnd, h, h1]; omega, by simpa [look, h] using h2, by simpa using h3⟩
theorem Try.map93 : Try.prog.underlying 93 = some (.map 104 23) := by kernel_rfl
theorem zero23 (w : World) : (zeroValue 23).run Try.prog w = .ok (.agg (da dz)) w := by kernel_rfl
theorem chkKey (em : Bool) (a b : Int) (w : World) : (Instr.checkKey em 10000 104 (.agg (kc a b))).run Try.prog w = .ok () w := chkKey' em 9998 a b w
theorem getMap {w : World} {g c : Nat} {es : Array MapEntry} (h : w.heap[g]? = some (.map es c)) : (getObj g).run Try.prog w = .ok (.map es c) w := by simp [getObj, Sem.run, h]
theorem setMap {w : World} {g c : Nat} {es : Array MapEntry} (o : Obj) (h : w.heap[g]? = some (.map es c)) : (setObj g o).run Try.prog w = .ok () { w with heap := w.heap.setIfInBounds g o } := by simp [setObj, Sem.run, h]
noncomputable def LK (x k : Value) : Sem Value := Instr.lookup 93 x k true
theorem LK_eq (x k : Value) : Instr.lookup 93 x k true = LK x k := rfl
theorem lk_run {w : World} {g c : Nat} {es : Array MapEntry} {ms : List DE} (h : w.heap[g]? = some (.map es c)) (hm : MR es ms) (p s : Int) :
    (LK (.map (some g)) (.agg (kc p s))).run Try.prog w = .ok (.tuple #[.agg (da ((look ms p s).getD dz)), .bool (look ms p s).isSome]) w := by
  unfold LK Instr.lookup
  simp only [Sem.run_bind, run_underlying Try.map93, Result.andThen_ok, Sem.run_pure, getMap h, chkKey, findKey_run p s w es ms hm]
  rcases fnd_look p s ms 0 with ⟨h1, h2⟩ | ⟨j, x, h1, h2, _⟩
  · simp [h1, h2, zero23]
    try rfl
  · simp [h1, h2]

/-- The list behind a store, and behind a delete. -/
def updL : List DE → DE → List DE
  | [], x => [x]
  | y :: r, x => if isAt x.pid x.slot y then x :: r else y :: updL r x
def delL : List DE → Int → Int → List DE
  | [], _, _ => []
  | y :: r, p, s => if isAt p s y then r else y :: delL r p s
theorem bits_kc (n : Nat) (p s : Int) : Instr.sameBits (n + 1) (.agg (kc p s)) (.agg (kc p s)) = true := by
  unfold kc
  simp [Instr.sameBits]
theorem modify_upd (x : DE) : ∀ (l : List MapEntry) (ms : List DE) (i j : Nat) (v : Value), l.map kv = ms.map kd → fnd x.pid x.slot ms i = some (i + j, v) →
    (l.modify j fun e => { e with key := .agg (kc x.pid x.slot), val := .agg (da x) }).map kv = (updL ms x).map kd := by
  intro l
  induction l with
  | nil =>
    intro ms i j v h hf
    cases ms with
    | nil => simp [fnd] at hf
    | cons y r => simp at h
  | cons e l ih =>
    intro ms i j v h hf
    cases ms with
    | nil => simp at h
    | cons y r =>
      simp only [List.map_cons, List.cons.injEq] at h
      by_cases hy : isAt x.pid x.slot y = true
      · simp only [fnd, hy, if_true, Option.some.injEq, Prod.mk.injEq] at hf
        obtain rfl : j = 0 := by omega
        simp [updL, hy, h.2, kv, kd]
      · simp only [fnd, hy, if_false] at hf
        rcases fnd_look x.pid x.slot r (i + 1) with ⟨h1, _⟩ | ⟨k, z, h1, _, _⟩
        · rw [h1] at hf; simp at hf
        · have hf' := hf
          rw [h1] at hf
          simp at hf
          obtain rfl : j = k + 1 := by omega
          have := ih r (i + 1) k v h.2 (by rw [← show i + (k + 1) = i + 1 + k by omega]; simpa using hf')
          simp [updL, hy, h.1, this]
theorem push_upd (x : DE) : ∀ (ms : List DE) (i : Nat), fnd x.pid x.slot ms i = none → updL ms x = ms ++ [x] := by
  intro ms
  induction ms with
  | nil => intro i h; rfl
  | cons y r ih =>
    intro i h
    by_cases hy : isAt x.pid x.slot y = true
    · simp [fnd, hy] at h
    · simp only [fnd, hy] at h
      simp [updL, hy, ih (i + 1) (by simpa using h)]
theorem erase_del (p s : Int) : ∀ (l : List MapEntry) (ms : List DE) (i j : Nat) (v : Value), l.map kv = ms.map kd → fnd p s ms i = some (i + j, v) → (l.eraseIdx j).map kv = (delL ms p s).map kd := by
  intro l
  induction l with
  | nil =>
    intro ms i j v h hf
    cases ms with
    | nil => simp [fnd] at hf
    | cons y r => simp at h
  | cons e l ih =>
    intro ms i j v h hf
    cases ms with
    | nil => simp at h
    | cons y r =>
      simp only [List.map_cons, List.cons.injEq] at h
      by_cases hy : isAt p s y = true
      · simp only [fnd, hy, if_true, Option.some.injEq, Prod.mk.injEq] at hf
        obtain rfl : j = 0 := by omega
        simp [delL, hy, h.2]
      · simp only [fnd, hy, if_false] at hf
        rcases fnd_look p s r (i + 1) with ⟨h1, _⟩ | ⟨k, z, h1, _, _⟩
        · rw [h1] at hf; simp at hf
        · have hf' := hf
          rw [h1] at hf
          simp at hf
          obtain rfl : j = k + 1 := by omega
          have := ih r (i + 1) k v h.2 (by rw [← show i + (k + 1) = i + 1 + k by omega]; simpa using hf')
          simp [delL, hy, h.1, this]
theorem none_del (p s : Int) : ∀ (ms : List DE) (i : Nat), fnd p s ms i = none → delL ms p s = ms := by
  intro ms
  induction ms with
  | nil => intro i h; rfl
  | cons y r ih =>
    intro i h
    by_cases hy : isAt p s y = true
    · simp [fnd, hy] at h
    · simp only [fnd, hy] at h
      simp [delL, hy, ih (i + 1) (by simpa using h)]
noncomputable def UP (m k v : Value) : Sem Unit := Instr.mapUpdate 93 m k v
theorem UP_eq (m k v : Value) : Instr.mapUpdate 93 m k v = UP m k v := rfl
noncomputable def DL (t : TypeId) (args : Array Value) : Sem Value := Builtin.delete_ #[93, 104] t args
theorem DL_eq (t : TypeId) (args : Array Value) : Builtin.delete_ #[93, 104] t args = DL t args := rfl
theorem up_run {w : World} {g c : Nat} {es : Array MapEntry} {ms : List DE} (h : w.heap[g]? = some (.map es c)) (hm : MR es ms) (x : DE) :
    ∃ es' c', (UP (.map (some g)) (.agg (kc x.pid x.slot)) (.agg (da x))).run Try.prog w = .ok () { w with heap := w.heap.setIfInBounds g (.map es' c') } ∧ MR es' (updL ms x) := by
  unfold UP Instr.mapUpdate
  simp only [Sem.run_bind, run_underlying Try.map93, Result.andThen_ok, Sem.run_pure, getMap h, chkKey, findKey_run x.pid x.slot w es ms hm]
  rcases fnd_look x.pid x.slot ms 0 with ⟨h1, h2⟩ | ⟨j, y, h1, h2, h3⟩
  · simp only [h1]
    refine ⟨_, _, setMap _ h, ?_⟩
    unfold MR at hm ⊢
    simp [push_upd x ms 0 h1, hm, kv, kd]
  · simp only [h1, Sem.run_bind]
    have hk : ((es[0 + j]?).map (·.key)).getD (.agg (kc x.pid x.slot)) = .agg (kc x.pid x.slot) := by
      have h4 : (es.toList.map kv)[j]? = (ms.map kd)[j]? := by rw [hm]
      simp only [List.getElem?_map, Array.getElem?_toList, h3] at h4
      rw [Nat.zero_add]
      rcases he : es[j]? with _ | e
      · rfl
      · rw [he] at h4
        simp only [Option.map_some, Option.some.injEq] at h4
        have h5 : e.key = .agg (kc y.pid y.slot) := congrArg Prod.fst h4
        have h6 : isAt x.pid x.slot y = true := by
          unfold look at h2
          exact (List.find?_some h2)
        simp [isAt] at h6
        simp [h5, h6]
    rw [hk]
    unfold Instr.keyThatStays
    rw [show (10000 : Nat) = 9999 + 1 from rfl, bits_kc]
    simp only [if_true, Sem.run_pure, Result.andThen_ok]
    refine ⟨_, _, setMap _ h, ?_⟩
    unfold MR at hm ⊢
    rw [Array.toList_modify]
    rw [Nat.zero_add] at h1 ⊢
    exact modify_upd x _ ms 0 j (.agg (da y)) hm (by rw [Nat.zero_add]; exact h1)
theorem dl_run {w : World} {g c : Nat} {es : Array MapEntry} {ms : List DE} (h : w.heap[g]? = some (.map es c)) (hm : MR es ms) (p s : Int) :
    ∃ es' c', (∀ t, (DL t #[.map (some g), .agg (kc p s)]).run Try.prog w = .ok (.tuple #[]) { w with heap := w.heap.setIfInBounds g (.map es' c') }) ∧ MR es' (delL ms p s) := by
  unfold DL Builtin.delete_
  rcases fnd_look p s ms 0 with ⟨h1, h2⟩ | ⟨j, y, h1, h2, h3⟩
  · refine ⟨es, c, fun t => ?_, ?_⟩
    · simp [Sem.run_bind, run_underlying Try.map93, Result.andThen_ok, Sem.run_pure, getMap h, chkKey, findKey_run p s w es ms hm, h1, setMap _ h]
    · rw [none_del p s ms 0 h1]
      exact hm
  · rw [Nat.zero_add] at h1
    refine ⟨es.eraseIdxIfInBounds j, c, fun t => ?_, ?_⟩
    · simp [Sem.run_bind, run_underlying Try.map93, Result.andThen_ok, Sem.run_pure, getMap h, chkKey, findKey_run p s w es ms hm, h1, setMap _ h]
    · unfold MR at hm ⊢
      have : (es.eraseIdxIfInBounds j).toList = es.toList.eraseIdx j := by
        simp [Array.eraseIdxIfInBounds]
        split
        · simp
        · rw [List.eraseIdx_of_length_le (by simp; omega)]
      rw [this]
      exact erase_del p s _ ms 0 j (.agg (da y)) hm (by rw [Nat.zero_add]; exact h1)
end Go.Proofs.Ytidmkdaegglepaa
