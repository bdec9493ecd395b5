/- Both tables: the words for a pair of tables; 'does', part one. -/
import Derived.Test.YtidmkdaegglepaaS5
set_option linter.all false
namespace Go.Proofs.Ytidmkdaegglepaa
open Go.RowKit

theorem rfork (w : World) (B rb : Nat) (l : List DE) (p c : Int) (h : RT w B rb l) (hG : Good l) (hB : B ≤ w.heap.size) :
    Calls Try.prog 61 #[.pointer (some ⟨rb, 0, none⟩), .int .i64 p, .int .i64 c] w fun e w' => e = .returned (.int .i64 (forkE l p c)) ∧ RT w' B rb (forkL l p c) ∧ Mod (RF w B rb) w w' := by
  unfold forkE forkL
  by_cases hc : p < 1 ∨ 6 < p ∨ c < 1 ∨ 6 < c ∨ p = c
  · rw [if_pos hc, if_pos hc]
    exact (rfork_arg w _ p c hc).mono fun e w' ⟨h1, h2⟩ => ⟨h1, h.quiet h2, mod_q h2⟩
  · rw [if_neg hc, if_neg hc]
    by_cases he : ofL l c = []
    · rw [if_pos he, if_pos he]
      exact rfork_go w B rb l p c h hG hB hc he
    · rw [if_neg he, if_neg he]
      exact (rfork_full w B rb l p c h hG.len hc ((left_empty hG c).2 he)).mono fun e w' ⟨h1, h2⟩ => ⟨h1, h.quiet h2, mod_q h2⟩
theorem rclose2 (w : World) (B rb : Nat) (l : List DE) (p s : Int) (h : RT w B rb l) (hG : Good l) (hB : B ≤ w.heap.size) :
    Calls Try.prog 60 #[.pointer (some ⟨rb, 0, none⟩), .int .i64 p, .int .i64 s] w fun r w' => r = .returned (.int .i64 (clE l p s)) ∧ RT w' B rb (clL l p s) ∧ Mod (RF w B rb) w w' := by
  refine (rclose w B rb l p s h (by have := hG.len; omega) hB).mono fun e w' ⟨h1, h2, h3⟩ => ⟨h1, ?_, h3⟩
  rcases hx : look l p s with _ | x
  · rw [(atB_none hx).1] at h2
    have : clL l p s = l := by
      unfold clL
      rw [List.filter_eq_self]
      intro y hy
      have := look_none.1 hx y hy
      rw [← isAt_iff] at this
      simpa using this
    rw [this]
    exact h2
  · rw [(atB_some hx).1] at h2
    have h4 := hG.right x (look_at hx).1
    have h5 := (look_at hx).2.2
    unfold Rg at h4
    rw [left_cl l p s (by omega)] at h2
    exact h2
theorem rdrop2 (w : World) (B rb : Nat) (l : List DE) (p : Int) (h : RT w B rb l) (hG : Good l) (hB : B ≤ w.heap.size) :
    Calls Try.prog 62 #[.pointer (some ⟨rb, 0, none⟩), .int .i64 p] w fun r w' => r = .returned (.int .i64 ((ofL l p).length : Nat)) ∧ RT w' B rb (dropL l p) ∧ Mod (RF w B rb) w w' := by
  refine (rdrop w B rb l p h (by have := hG.len; omega) hB).mono fun e w' ⟨h1, h2, h3⟩ => ⟨?_, ?_, h3⟩
  · rw [h1, left_drop]
    have := drop_len hG p
    congr 2
    omega
  · rw [← left_drop]
    exact h2
/-- Two tables that are the same: the program's at b, the reference's at rb. -/
structure PT (w : World) (B b rb : Nat) (L : List DE) : Prop where
  d : DT w B b L
  r : RT w B rb L
  good : Good L
def SF (w : World) (B b rb : Nat) (k : Nat) : Prop := DO w B b k ∨ RF w B rb k
theorem DO_RF {w : World} {B b rb : Nat} {L l : List DE} (hd : DT w B b L) (hr : RT w B rb l) : ∀ k, DO w B b k → ¬ RF w B rb k := by
  obtain ⟨_, v, hrb, _⟩ := hr
  obtain ⟨_, g, es, c, ms, hb, hg, _⟩ := hd
  rintro k (rfl | ⟨_, es', c', hk⟩) (rfl | ⟨_, cur, hk2⟩)
  · exact (hb.ne_ hrb (by decide)) rfl
  · exact (hb.ne_ hk2 (by decide)) rfl
  · unfold Blk at hrb
    rw [hk] at hrb
    cases hrb
  · unfold Blk at hk2
    rw [hk] at hk2
    cases hk2
theorem PT.quiet {w w' : World} {B b rb : Nat} {L : List DE} (h : PT w B b rb L) (hb : Below w.heap.size w w') : PT w' B b rb L := ⟨h.d.quiet hb, h.r.quiet hb, h.good⟩
theorem PT.stepR {w w' : World} {B b rb : Nat} {L l : List DE} (hd : DT w B b L) (hr : RT w B rb l) (hm : Mod (DO w B b) w w') : RT w' B rb l := hr.mod hm fun k h1 h2 => DO_RF hd hr k h2 h1
theorem PT.stepD {w w' : World} {B b rb : Nat} {L l : List DE} (hd : DT w B b L) (hr : RT w B rb l) (hm : Mod (RF w B rb) w w') : DT w' B b L := hd.mod hm fun k h1 h2 => DO_RF hd hr k h1 h2
theorem SF.type {w : World} {B b rb : Nat} {L l : List DE} (hd : DT w B b L) (hr : RT w B rb l) {k : Nat} {t : TypeId} {cs : Array Value} (hk : Blk w k t cs) (h1 : t ≠ 95) (h2 : t ≠ 35) (h3 : t ≠ 26) : ¬ SF w B b rb k := by
  rintro (h | h)
  · exact DO.type hd hk h1 h
  · exact RF.type hr hk h2 h3 h
theorem SF.low {w : World} {B b rb : Nat} {L l : List DE} (hd : DT w B b L) (hr : RT w B rb l) : ∀ k, SF w B b rb k → B ≤ k := by
  rintro k (h | h)
  · exact DO.low hd k h
  · exact RF.low hr k h
theorem sf_two {w V W : World} {B b rb : Nat} (h : Mod (DO w B b) w V) (k : Mod (RF V B rb) V W) : Mod (SF w B b rb) w W :=
  (h.mono fun _ _ h => .inl h).trans k fun i hi hx => by
    by_cases hd : DO w B b i
    · exact .inl hd
    · rcases hx with rfl | ⟨h1, cur, h2⟩
      · exact .inr (.inl rfl)
      · exact .inr (.inr ⟨h1, cur, (h.block i hi hd).symm.trans h2⟩)
theorem sf_trans {w V W : World} {B b rb : Nat} (h : Mod (SF w B b rb) w V) (k : Mod (SF V B b rb) V W) : Mod (SF w B b rb) w W :=
  h.trans k fun i hi hx => by
    by_cases hd : SF w B b rb i
    · exact hd
    · have e := (h.block i hi hd).symm
      rcases hx with (rfl | ⟨h1, es, c, h2⟩) | (rfl | ⟨h1, cur, h2⟩)
      · exact .inl (.inl rfl)
      · exact .inl (.inr ⟨h1, es, c, e.trans h2⟩)
      · exact .inr (.inl rfl)
      · exact .inr (.inr ⟨h1, cur, e.trans h2⟩)
theorem sf_q {w V : World} {B b rb : Nat} (h : Below w.heap.size w V) : Mod (SF w B b rb) w V := mod_q h
/-- A pair behind two calls, each of its own side. -/
theorem PT.two {w V W : World} {B b rb : Nat} {L L' : List DE} (h : PT w B b rb L) (hg : Good L') (m1 : Mod (DO w B b) w V) (d1 : DT V B b L') (m2 : Mod (RF V B rb) V W) (r2 : RT W B rb L') :
    PT W B b rb L' ∧ Mod (SF w B b rb) w W :=
  ⟨⟨PT.stepD d1 (PT.stepR h.d h.r m1) m2, r2, hg⟩, sf_two m1 m2⟩

structure ST where
  what : Int
  pid : Int
  slot : Int
  kind : Int
  obj : Int
  n : Int
def sa (s : ST) : Array Value := #[.int .i64 s.what, .int .i64 s.pid, .int .i64 s.slot, .int .i64 s.kind, .int .i64 s.obj, .int .i64 s.n]
def sc (s : ST) : List Value := [.int .i64 s.what, .int .i64 s.pid, .int .i64 s.slot, .int .i64 s.kind, .int .i64 s.obj, .int .i64 s.n]
def stepL (L : List DE) (s : ST) : List DE :=
  if s.what = 0 ∨ s.what = 1 ∨ s.what = 2 then addL L s.pid s.kind s.obj
  else if s.what = 3 then skX L s.pid s.slot s.n
  else if s.what = 4 then dupL L s.pid s.slot
  else if s.what = 5 then clL L s.pid s.slot
  else if s.what = 6 then forkL L s.pid s.n
  else if s.what = 7 then dropL L s.pid
  else L
theorem Good.step {L : List DE} (h : Good L) (s : ST) : Good (stepL L s) := by
  unfold stepL
  split
  · exact h.add _ _ _
  · split
    · exact h.sk _ _ _
    · split
      · exact h.dup _ _
      · split
        · exact h.cl _ _
        · split
          · exact h.fork _ _
          · split
            · exact h.drop _
            · exact h
def DoesR (w : World) (B b rb : Nat) (L' : List DE) (e : Ending) (w' : World) : Prop :=
  e = .returned (.bool true) ∧ PT w' B b rb L' ∧ Mod (SF w B b rb) w w'
theorem DoesR.via {w V W : World} {B b rb : Nat} {L' : List DE} (hb : Below w.heap.size w V) (h : PT W B b rb L' ∧ Mod (SF V B b rb) V W) : DoesR w B b rb L' (.returned (.bool true)) W :=
  ⟨rfl, h.1, sf_trans (sf_q hb) h.2⟩
set_option maxHeartbeats 3200000 in
set_option maxRecDepth 100000 in
theorem does_none (w : World) (B b rb : Nat) (L : List DE) (s : ST) (h : PT w B b rb L) (hs : ¬ (0 ≤ s.what ∧ s.what ≤ 7)) :
    Calls Try.prog 19 #[.pointer (some ⟨b, 0, none⟩), .pointer (some ⟨rb, 0, none⟩), .agg (sa s)] w (DoesR w B b rb L) := by
  obtain ⟨a, p, t, k, o, n⟩ := s
  simp only at hs
  have d0 : (a == 0) = false := by simp; omega
  have d1 : (a == 1) = false := by simp; omega
  have d2 : (a == 2) = false := by simp; omega
  have d3 : (a == 3) = false := by simp; omega
  have d4 : (a == 4) = false := by simp; omega
  have d5 : (a == 5) = false := by simp; omega
  have d6 : (a == 6) = false := by simp; omega
  have d7 : (a == 7) = false := by simp; omega
  unfold sa
  simp only
  have ba := alloc_below w (.cells #[.int .i64 a, .int .i64 p, .int .i64 t, .int .i64 k, .int .i64 o, .int .i64 n] 37)
  clear hs
  go_enter Try.func19, Try.ntmps19
  go_wp2
  go_ret
  exact ⟨rfl, h.quiet ba, sf_q ba⟩
set_option maxHeartbeats 3200000 in
set_option maxRecDepth 100000 in
theorem does_add (w : World) (B b rb : Nat) (L : List DE) (a p t k o n : Int) (h : PT w B b rb L) (hB : B ≤ w.heap.size) (hs : a = 0 ∨ a = 1 ∨ a = 2) :
    Calls Try.prog 19 #[.pointer (some ⟨b, 0, none⟩), .pointer (some ⟨rb, 0, none⟩), .agg #[.int .i64 a, .int .i64 p, .int .i64 t, .int .i64 k, .int .i64 o, .int .i64 n]] w (DoesR w B b rb (addL L p k o)) := by
  have hA := fun u hu => add_dt u B b L p k o hu
  have hR := fun u hu hBu => radd u B rb L ⟨p, 0, k, o, 0⟩ hu (by have := h.good.len; omega) hBu
  have hg := h.good.add p k o
  simp only at hR
  have ba := alloc_below w (.cells #[.int .i64 a, .int .i64 p, .int .i64 t, .int .i64 k, .int .i64 o, .int .i64 n] 37)
  have h0 := h.quiet ba
  have hn0 := Blk.new w 37 #[.int .i64 a, .int .i64 p, .int .i64 t, .int .i64 k, .int .i64 o, .int .i64 n]
  generalize addL L p k o = L' at *
  generalize addV L p k o = v at *
  generalize addE L p k o = r at *
  unfold da at hR
  simp only at hR
  have HA := Lib.hid hA
  have HR := Lib.hid hR
  clear hA hR h
  rcases hs with rfl | rfl | rfl
  all_goals
    go_enter Try.func19, Try.ntmps19
    go_wp2_with fail
    refine (HA.out _ h0.d).mono ?_
    rintro e w1 ⟨rfl, d1, m1⟩
    have hn1 := hn0.mod m1 (DO.type h0.d hn0 (by decide))
    have r1 := PT.stepR h0.d h0.r m1
    have c1 := hn1.cell 1
    have c3 := hn1.cell 3
    have c4 := hn1.cell 4
    simp at c1 c3 c4
    have s1 := m1.size
    go_wp2_with fail
    refine (HR.out w1 r1 (Nat.le_trans hB (Nat.le_trans ba.size s1))).mono ?_
    rintro e w2 ⟨rfl, r2, m2⟩
    have hf := h0.two hg m1 d1 m2 r2
    clear c1 c3 c4 HA HR h0 hn0 hn1 r1 d1 m1 m2 r2 s1
    go_wp2
    go_ret
    simp only [beq_self_eq_true]
    exact DoesR.via ba hf
end Go.Proofs.Ytidmkdaegglepaa
