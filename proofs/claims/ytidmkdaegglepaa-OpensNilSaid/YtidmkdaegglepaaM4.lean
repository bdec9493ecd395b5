/- Descriptors: put, and what a store and a delete do to a table. -/
import Derived.Test.YtidmkdaegglepaaM3
set_option linter.all false
namespace Go.Proofs.Ytidmkdaegglepaa
open Go.RowKit

theorem blk_map {w : World} {b g g' : Nat} (h : Blk w b 95 #[.map (some g)]) (h' : Blk w b 95 #[.map (some g')]) : g' = g := by
  unfold Blk at h h'
  rw [h] at h'
  simp at h'
  exact h'.symm
theorem mod_heap {F : Nat → Prop} (w : World) (g : Nat) (o : Obj) (hF : F g) : Mod F w { w with heap := w.heap.setIfInBounds g o } :=
  ⟨rfl, rfl, rfl, by simp, fun k _ hk => by
    have : g ≠ k := fun e => hk (e ▸ hF)
    simp [this]⟩
theorem dt_up {V : World} {B b : Nat} {L : List DE} (h : DT V B b L) (x : DE) :
    ∃ W2, (∀ g, Blk V b 95 #[.map (some g)] → (UP (.map (some g)) (.agg (kc x.pid x.slot)) (.agg (da x))).run Try.prog V = .ok () W2) ∧ Mod (DO V B b) V W2 ∧
      ∀ L', (∀ p s, look L' p s = if p = x.pid ∧ s = x.slot then some x else look L p s) → DT W2 B b L' := by
  obtain ⟨h1, g, es, c, ms, hb, hg, hl, hm, hk, hlk⟩ := h
  obtain ⟨es', c', hr, hm'⟩ := up_run hg hm x
  refine ⟨_, fun g' hg' => by obtain rfl := blk_map hb hg'; exact hr, mod_heap V g _ (.inr ⟨hl, _, _, hg⟩), fun L' hL => ?_⟩
  refine ⟨h1, g, es', c', updL ms x, ?_, ?_, hl, hm', keys_upd x ms hk, fun p s => by rw [look_upd, hL, hlk]⟩
  · have hne : g ≠ b := fun e => by subst e; unfold Blk at hb; rw [hg] at hb; cases hb
    have := hb
    unfold Blk at this ⊢
    simp [hne, this]
  · simp [heap_lt hg]
theorem dt_del {V : World} {B b : Nat} {L : List DE} (h : DT V B b L) (p0 s0 : Int) :
    ∃ W2, (∀ g, Blk V b 95 #[.map (some g)] → ∀ t, (DL t #[.map (some g), .agg (kc p0 s0)]).run Try.prog V = .ok (.tuple #[]) W2) ∧ Mod (DO V B b) V W2 ∧
      ∀ L', (∀ p s, look L' p s = if p = p0 ∧ s = s0 then none else look L p s) → DT W2 B b L' := by
  obtain ⟨h1, g, es, c, ms, hb, hg, hl, hm, hk, hlk⟩ := h
  obtain ⟨es', c', hr, hm'⟩ := dl_run hg hm p0 s0
  refine ⟨_, fun g' hg' => by obtain rfl := blk_map hb hg'; exact hr, mod_heap V g _ (.inr ⟨hl, _, _, hg⟩), fun L' hL => ?_⟩
  refine ⟨h1, g, es', c', delL ms p0 s0, ?_, ?_, hl, hm', keys_del p0 s0 hk, fun p s => by rw [look_del _ _ _ _ _ hk, hL, hlk]⟩
  · have hne : g ≠ b := fun e => by subst e; unfold Blk at hb; rw [hg] at hb; cases hb
    have := hb
    unfold Blk at this ⊢
    simp [hne, this]
  · simp [heap_lt hg]
theorem dt_look {V : World} {B b g : Nat} {L : List DE} (h : DT V B b L) (hg : Blk V b 95 #[.map (some g)]) (p s : Int) :
    (LK (.map (some g)) (.agg (kc p s))).run Try.prog V = .ok (.tuple #[.agg (da (atV L p s)), .bool (atB L p s)]) V := by
  obtain ⟨_, g', es, c, ms, hb, hg', _, hm, _, hlk⟩ := h
  obtain rfl := blk_map hb hg
  have := lk_run hg' hm p s
  rw [hlk] at this
  exact this
theorem DT.blk {V : World} {B b : Nat} {L : List DE} (h : DT V B b L) : ∃ g, Blk V b 95 #[.map (some g)] := by
  obtain ⟨g, es, c, ms, hb, _⟩ := h.tab
  exact ⟨g, hb⟩

/-- The lowest free slot of a process: none is, or it. -/
def free (L : List DE) (p : Int) : Option Int := slots.find? fun k => (look L p k).isNone
def putE (L : List DE) (e : DE) : Int := if (free L e.pid).isSome then 0 else 5
def putV (L : List DE) (e : DE) : Int := (free L e.pid).getD 0
def putL (L : List DE) (e : DE) : List DE := match free L e.pid with | some k => insL L { e with slot := k } | none => L
theorem free_some {L : List DE} {p : Int} {k : Nat} (h : ∀ j : Nat, j < k → (look L p j).isSome = true) (hk : k < 6) (hn : look L p k = none) : free L p = some (k : Int) := by
  unfold free slots
  have h' : ∀ j : Nat, j < k → (look L p (j : Int)).isNone = false := fun j hj => by
    have := h j hj
    cases e : look L p (j : Int)
    · rw [e] at this; simp at this
    · rfl
  have hn' : (look L p (k : Int)).isNone = true := by rw [hn]; rfl
  match k, hk with
  | 0, _ => simp_all
  | 1, _ =>
    have a0 := h' 0 (by omega)
    simp_all
  | 2, _ =>
    have a0 := h' 0 (by omega)
    have a1 := h' 1 (by omega)
    simp_all
  | 3, _ =>
    have a0 := h' 0 (by omega)
    have a1 := h' 1 (by omega)
    have a2 := h' 2 (by omega)
    simp_all
  | 4, _ =>
    have a0 := h' 0 (by omega)
    have a1 := h' 1 (by omega)
    have a2 := h' 2 (by omega)
    have a3 := h' 3 (by omega)
    simp_all
  | 5, _ =>
    have a0 := h' 0 (by omega)
    have a1 := h' 1 (by omega)
    have a2 := h' 2 (by omega)
    have a3 := h' 3 (by omega)
    have a4 := h' 4 (by omega)
    simp_all
theorem free_none {L : List DE} {p : Int} (h : ∀ j : Nat, j < 6 → (look L p j).isSome = true) : free L p = none := by
  unfold free slots
  rw [List.find?_eq_none]
  intro x hx
  have e : x = 0 ∨ x = 1 ∨ x = 2 ∨ x = 3 ∨ x = 4 ∨ x = 5 := by simpa using hx
  obtain ⟨j, rfl⟩ := Int.eq_ofNat_of_zero_le (show 0 ≤ x by omega)
  have := h j (by omega)
  cases e : look L p (j : Int)
  · rw [e] at this; simp at this
  · simp [e]
theorem free_look {L : List DE} {p k : Int} (h : free L p = some k) : look L p k = none ∧ 0 ≤ k ∧ k ≤ 5 := by
  unfold free at h
  have h1 := List.find?_some h
  have h2 := List.mem_of_find?_eq_some h
  simp [slots] at h1 h2
  exact ⟨h1, by omega, by omega⟩
theorem DO.back {w V : World} {B b : Nat} (hb : Below w.heap.size w V) : ∀ i, i < w.heap.size → DO V B b i → DO w B b i := by
  rintro i hi (rfl | ⟨h1, es, c, h2⟩)
  · exact .inl rfl
  · exact .inr ⟨h1, es, c, (hb.block i hi).symm.trans h2⟩
theorem mod_q {F : Nat → Prop} {w V : World} (hb : Below w.heap.size w V) : Mod F w V := (Mod.of_below hb).mono (fun _ _ h => h.elim)
theorem mod_via {w V W : World} {B b : Nat} (hb : Below w.heap.size w V) (hm : Mod (DO V B b) V W) : Mod (DO w B b) w W := (mod_q hb).trans hm (DO.back hb)

attribute [local go_sem ↓] LK_eq UP_eq DL_eq
set_option maxHeartbeats 3200000 in
set_option maxRecDepth 100000 in
theorem put_dt (w : World) (B b : Nat) (L : List DE) (e : DE) (h : DT w B b L) :
    Calls Try.prog 65 #[.pointer (some ⟨b, 0, none⟩), .agg (da e)] w fun r w' => r = .returned (.tuple #[.int .i64 (putV L e), .int .i64 (putE L e)]) ∧ DT w' B b (putL L e) ∧ Mod (DO w B b) w w' := by
  obtain ⟨pid, slot0, kind, obj, off⟩ := e
  have hbx := Blk.new w 23 (da ⟨pid, slot0, kind, obj, off⟩)
  have h0 := h.quiet (alloc_below w (.cells (da ⟨pid, slot0, kind, obj, off⟩) 23))
  have b0 := alloc_below w (.cells (da ⟨pid, slot0, kind, obj, off⟩) 23)
  unfold da at *
  simp only at hbx h0 b0 ⊢
  go_enter Try.func65, Try.ntmps65
  go_wp2_with fail
  go_loopw [10] (fun i wr => ∃ k : Nat, k ≤ 6 ∧ i = .int .i64 k ∧ Hid (∀ j : Nat, j < k → (look L pid j).isSome = true) ∧ DT wr B b L ∧ Blk wr w.heap.size 23 #[.int .i64 pid, .int .i64 slot0, .int .i64 kind, .int .i64 obj, .int .i64 off] ∧ Below w.heap.size w wr ∧ w.heap.size + 1 ≤ wr.heap.size) (fun i _ => 6 - (intOf i).toNat)
  case atStart => exact ⟨0, by omega, rfl, fun j hj => absurd hj (by omega), h0, hbx, b0, by simp⟩
  case round =>
    obtain ⟨k, hk, rfl, hj, hd, hbw, hbel, hsz⟩ := hrel
    clear h0 hbx b0
    by_cases hlt : k < 6
    · have d0 : decide ((k : Int) < 6) = true := by simp; omega
      obtain ⟨g, hg⟩ := hd.blk
      have k0 := hg.cell 0
      simp at k0
      have hlb := hg.lt
      have b1 := alloc_below wr (.cells (kc pid k) 104)
      have b2 := b1.alloc (by simp) (.cells (da dz) 23)
      have L1 := dt_look (hd.quiet b1.drew) (hg.mod (Mod.of_below b1.drew) (fun h => h)) pid k
      have L2 := dt_look (hd.quiet b2.drew) (hg.mod (Mod.of_below b2.drew) (fun h => h)) pid k
      have k1 := (b1.cell (p := ⟨b, 0, none⟩) hlb).trans k0
      have k2 := (b2.cell (p := ⟨b, 0, none⟩) hlb).trans k0
      have c0 := hbw.cell 0
      have c1 := hbw.cell 1
      have c2 := hbw.cell 2
      have c3 := hbw.cell 3
      have c4 := hbw.cell 4
      have f1 := hbw.frozen 1
      simp at c0 c1 c2 c3 c4
      by_cases hat : atB L pid k = true
      · have hj2 : ∀ j : Nat, j < k + 1 → (look L pid j).isSome = true := by
          intro j hjk
          rcases Nat.lt_or_ge j k with h1 | h1
          · exact hj.out j h1
          · obtain rfl : j = k := by omega
            exact hat
        have HJ := Lib.hid hj2
        rw [hat] at L1 L2
        generalize atV L pid k = y at L1 L2
        obtain ⟨y1, y2, y3, y4, y5⟩ := y
        unfold da kc at *
        simp only [dz] at L1 L2 k1 k2 b2
        have b3 := (b1.alloc (by simp) (.cells #[.int .i64 y1, .int .i64 y2, .int .i64 y3, .int .i64 y4, .int .i64 y5] 23)).drew
        clear hj2 hg hat b1 b2
        go_wp2_with fail
        go_region
        all_goals clear L1 L2 k1 k2
        all_goals go_wp2
        all_goals go_roundw
        case rel => exact ⟨k + 1, by omega, by go_num, HJ, hd.quiet b3, hbw.mod (Mod.of_below b3) (fun h => h), hbel.trans (b3.mono (by omega)), Nat.le_trans hsz b3.size⟩
        case measure => simp [intOf]; omega
        case rel => exact ⟨k + 1, by omega, by go_num, HJ, hd.quiet b3, hbw.mod (Mod.of_below b3) (fun h => h), hbel.trans (b3.mono (by omega)), Nat.le_trans hsz b3.size⟩
        case measure => simp [intOf]; omega
      · have hat' : atB L pid k = false := by simpa using hat
        have hnone : look L pid k = none := by unfold atB at hat'; simpa using hat'
        rw [hat'] at L1 L2
        generalize atV L pid k = y at L1 L2
        obtain ⟨y1, y2, y3, y4, y5⟩ := y
        have b3 := b1.alloc (by simp) (.cells (da ⟨y1, y2, y3, y4, y5⟩) 23)
        have hS := hbw.mod (Mod.of_below b3) (fun h => h)
        have hKey := (Blk.new wr 104 (kc pid k)).alloc (.cells (da ⟨y1, y2, y3, y4, y5⟩) 23)
        have hMap := hg.mod (Mod.of_below b3) (fun h => h)
        have hD3 := hd.quiet b3
        have q1 := hS.cell 1
        have f2 := hS.frozen 1
        have hS4 := hS.set_ 1 (.int .i64 k)
        have hKey4 := hKey.far (p := ⟨w.heap.size, 1, none⟩) (hKey.ne_ hS (by decide)) (.int .i64 k)
        have hMap4 := hMap.far (p := ⟨w.heap.size, 1, none⟩) (hMap.ne_ hS (by decide)) (.int .i64 k)
        have hmod4 := (Mod.refl (fun i => i = w.heap.size) ((wr.alloc (.cells (kc pid k) 104)).alloc (.cells (da ⟨y1, y2, y3, y4, y5⟩) 23))).setCell (p := ⟨w.heap.size, 1, none⟩) (.inl rfl) (.int .i64 k)
        have hD4 := hD3.mod hmod4 (fun i hi e => DO.type hD3 hS (by decide) (e ▸ hi))
        have hbel4 := (hbel.trans (b3.mono (by omega))).setCell (p := ⟨w.heap.size, 1, none⟩) (Nat.le_refl _) (.int .i64 k)
        unfold da kc at *
        simp only [dz] at L1 L2 k1 k2 b2
        simp at q1 hS4
        have HH := Lib.hid (And.intro hS4 (And.intro hKey4 (And.intro hMap4 (And.intro hD4 hbel4))))
        clear hS4 hKey4 hMap4 hD4 hbel4 hmod4 hS hKey hMap hD3 b3 b2 b1
        go_wp2_with fail
        go_region
        all_goals clear L1 L2 k1 k2
        all_goals go_wp2_with fail
        all_goals
          generalize World.setCell _ _ _ = V at HH ⊢
          obtain ⟨hS4, hKey4, hMap4, hD4, hbel4⟩ := HH.out
          have v0 := hS4.cell 0
          have v1 := hS4.cell 1
          have v2 := hS4.cell 2
          have v3 := hS4.cell 3
          have v4 := hS4.cell 4
          have v5 := hKey4.cell 0
          have v6 := hKey4.cell 1
          have v7 := hMap4.cell 0
          simp at v0 v1 v2 v3 v4 v5 v6 v7
          obtain ⟨W2, hr, hm2, hd2⟩ := dt_up (V := V.drew.drew) (hD4.quiet (Below.refl _ _).drew.drew) ⟨pid, k, kind, obj, off⟩
          have U1 := hr g hMap4
          unfold da kc at U1
          simp only at U1
          have HD2 := Lib.hid (And.intro hm2 hd2)
          clear hr hm2 hd2 hMap4 hKey4 hS4 HH q1 f2 c0 c1 c2 c3 c4 f1 k0 hd hg
          go_region
          go_wp2
          go_ret2
          have hfr := free_some hj.out hlt hnone
          refine ⟨by simp [putV, putE, hfr], ?_, mod_via (hbel4.drew.drew) HD2.out.1⟩
          refine HD2.out.2 _ fun p s => ?_
          rw [putL, hfr]
          exact look_ins _ _ _ _ hnone
    · obtain rfl : k = 6 := by omega
      have hfr := free_none hj.out
      clear hbw
      go_wp2
      go_ret2
      exact ⟨by simp [putV, putE, hfr], by rw [putL, hfr]; exact hd, mod_q hbel⟩
end Go.Proofs.Ytidmkdaegglepaa
