/- 'ref', 'at'. -/
import Derived.Test.YtidmkdaegglepaaM2
import Derived.Laws.ResultCell
set_option linter.all false
namespace Go.Proofs.Ytidmkdaegglepaa
open Go.RowKit

/-- A result that lies in a block of its own. -/
theorem res_cell {fn : Func} {p : Tmp} {ty : TypeId} (h : fn.results = #[.cell p ty]) {a : Act} {w : World} {R : Ending → World → Prop} {g : Nat} {cs : Array Value} {fs : Array Field}
    (hp : a.tmps.getD p undef = .pointer (some ⟨g, 0, none⟩)) (hg : Blk w g ty cs) (hu : Try.prog.underlying ty = some (.struct fs)) (hi : (Try.prog.info? ty).map (·.size) = some cs.size)
    (hdf : a.defers = []) (hR : R (.returned (.agg cs)) w) : bodyPost Try.prog fn R .ret a w :=
  bodyPost_ret (results_cell_row h _ _ g ty cs (0, 0) _ hp hg hu rfl hi) hdf hR
theorem res_cell2 {fn : Func} {p u : Tmp} {ty : TypeId} (h : fn.results = #[.cell p ty, .tmp u]) {a : Act} {w : World} {R : Ending → World → Prop} {g : Nat} {cs : Array Value} {fs : Array Field}
    (hp : a.tmps.getD p undef = .pointer (some ⟨g, 0, none⟩)) (hg : Blk w g ty cs) (hu : Try.prog.underlying ty = some (.struct fs)) (hi : (Try.prog.info? ty).map (·.size) = some cs.size)
    (hdf : a.defers = []) (hR : R (.returned (.tuple #[.agg cs, a.tmps.getD u undef])) w) : bodyPost Try.prog fn R .ret a w := by
  refine bodyPost_ret ?_ hdf hR
  rw [results_cell_tmp h]
  have hp' : a.tmps[p]?.getD undef = .pointer (some ⟨g, 0, none⟩) := by simpa using hp
  simp [hp', asAddr, run_loadVar_row w g ty ty cs (0, 0) _ hg hu rfl hi]
theorem blk1 (w : World) (o : Obj) (T : TypeId) (cs : Array Value) : Blk ((w.alloc o).alloc (.cells cs T)) (w.heap.size + 1) T cs := by
  have := Blk.new (w.alloc o) T cs
  simp only [World.size_alloc] at this
  exact this
theorem Blk.drew {w : World} {g : Nat} {t : TypeId} {cs : Array Value} (h : Blk w g t cs) : Blk w.drew g t cs := h
theorem ref_any (x : DE) (w : World) : Calls Try.prog 16 #[.agg (da x)] w fun e w' => e = .returned (.agg (da x)) ∧ Below w.heap.size w w' := by
  obtain ⟨pid, slot, kind, obj, off⟩ := x
  unfold da
  go_enter Try.func16, Try.ntmps16
  go_wp2
  exact res_cell rfl rfl (blk1 _ _ _ _) Try.underlying26 (by kernel_rfl) rfl ⟨rfl, (alloc_below _ _).alloc (by simp) _⟩

/-- A table of descriptors at block b: its map holds just those of the list L. -/
structure DT (w : World) (B b : Nat) (L : List DE) : Prop where
  low : B ≤ b
  tab : ∃ g es c ms, Blk w b 95 #[.map (some g)] ∧ w.heap[g]? = some (.map es c) ∧ B ≤ g ∧ MR es ms ∧ Keys ms ∧ ∀ p s, look ms p s = look L p s
def DO (w : World) (B b : Nat) (k : Nat) : Prop := k = b ∨ (B ≤ k ∧ ∃ es c, w.heap[k]? = some (.map es c))
theorem heap_lt {w : World} {g : Nat} {o : Obj} (h : w.heap[g]? = some o) : g < w.heap.size := (Array.getElem?_eq_some_iff.1 h).1
theorem DT.mod {F : Nat → Prop} {w w' : World} {B b : Nat} {L : List DE} (h : DT w B b L) (hm : Mod F w w') (hF : ∀ k, DO w B b k → ¬ F k) : DT w' B b L := by
  obtain ⟨h1, g, es, c, ms, hb, hg, hl, r⟩ := h
  exact ⟨h1, g, es, c, ms, hb.mod hm (hF b (.inl rfl)), (hm.block g (heap_lt hg) (hF g (.inr ⟨hl, _, _, hg⟩))).trans hg, hl, r⟩
theorem DT.quiet {w w' : World} {B b : Nat} {L : List DE} (h : DT w B b L) (hb : Below w.heap.size w w') : DT w' B b L := h.mod (Mod.of_below hb) (fun _ _ h => h)
theorem DO.low {w : World} {B b : Nat} {L : List DE} (h : DT w B b L) : ∀ k, DO w B b k → B ≤ k := by
  rintro k (rfl | ⟨hk, _⟩)
  · exact h.low
  · exact hk
theorem DT.bl {w w' : World} {B b : Nat} {L : List DE} (h : DT w B b L) (hB : B ≤ w.heap.size) (hm : Mod (DO w B b) w w') : Below B w w' := hm.below hB (DO.low h)
theorem DO.type {w : World} {B b : Nat} {L : List DE} (h : DT w B b L) {k : Nat} {t : TypeId} {cs : Array Value} (hk : Blk w k t cs) (h1 : t ≠ 95) : ¬ DO w B b k := by
  obtain ⟨_, g, es, c, ms, hb, hg, _⟩ := h
  rintro (rfl | ⟨_, es, c, hc⟩)
  · exact (hb.ne_ hk h1.symm) rfl
  · unfold Blk at hk
    rw [hk] at hc
    cases hc
theorem DT.congr {w : World} {B b : Nat} {L L' : List DE} (h : DT w B b L) (e : ∀ p s, look L p s = look L' p s) : DT w B b L' := by
  obtain ⟨h1, g, es, c, ms, hb, hg, hl, hm, hk, hlk⟩ := h
  exact ⟨h1, g, es, c, ms, hb, hg, hl, hm, hk, fun p s => (hlk p s).trans (e p s)⟩

attribute [local go_sem ↓] LK_eq
def atV (L : List DE) (p s : Int) : DE := (look L p s).getD dz
def atB (L : List DE) (p s : Int) : Bool := (look L p s).isSome
set_option maxHeartbeats 1600000 in
set_option maxRecDepth 100000 in
theorem at_dt (w : World) (B b : Nat) (L : List DE) (p s : Int) (h : DT w B b L) :
    Calls Try.prog 64 #[.pointer (some ⟨b, 0, none⟩), .agg (kc p s)] w fun e w' => e = .returned (.tuple #[.agg (da (atV L p s)), .bool (atB L p s)]) ∧ Below w.heap.size w w' := by
  obtain ⟨h1, g, es, c, ms, hb, hg, hl, hm, hk, hlk⟩ := h
  have k0 := hb.cell 0
  simp at k0
  have hlb := hb.lt
  have hlg := heap_lt hg
  have hb2 := (((alloc_below w (.cells (kc p s) 104)).alloc (by simp) (.cells (da dz) 23)).drew)
  have hb3 := ((((alloc_below w (.cells (kc p s) 104)).alloc (by simp) (.cells (da dz) 23)).alloc (by simp; omega) (.cells (da dz) 23)).drew)
  have L1 := lk_run ((hb2.block g hlg).trans hg) hm p s
  have L2 := lk_run ((hb3.block g hlg).trans hg) hm p s
  rw [hlk] at L1 L2
  have k2 : ((w.alloc (.cells (kc p s) 104)).alloc (.cells (da dz) 23)).cell? ⟨b, 0, none⟩ = some (.map (some g)) := (hb2.cell (p := ⟨b, 0, none⟩) hlb).trans k0
  have k3 : (((w.alloc (.cells (kc p s) 104)).alloc (.cells (da dz) 23)).alloc (.cells (da dz) 23)).cell? ⟨b, 0, none⟩ = some (.map (some g)) := (hb3.cell (p := ⟨b, 0, none⟩) hlb).trans k0
  clear hb2 hb3
  unfold atV atB
  generalize (look L p s).getD dz = x at *
  generalize (look L p s).isSome = o at *
  obtain ⟨pid, slot, kind, obj, off⟩ := x
  unfold da kc at *
  simp only [dz] at *
  clear hb hg hm hk hlk
  go_enter Try.func64, Try.ntmps64
  go_wp2_with fail
  go_region
  all_goals clear L1 L2 k2 k3
  all_goals go_wp2
  all_goals exact res_cell2 rfl rfl ((blk1 w _ 23 _).alloc _).drew Try.underlying23 (by kernel_rfl) rfl ⟨rfl, (((alloc_below w _).alloc (by simp) _).alloc (by simp; omega) _).drew⟩
theorem at_nil (w : World) (p s : Int) :
    Calls Try.prog 64 #[.pointer none, .agg (kc p s)] w fun e w' => e = .returned (.tuple #[.agg (da dz), .bool false]) ∧ Below w.heap.size w w' := by
  unfold da kc
  simp only [dz]
  go_enter Try.func64, Try.ntmps64
  go_wp2
  exact res_cell2 rfl rfl (blk1 w _ 23 _) Try.underlying23 (by kernel_rfl) rfl ⟨rfl, ((alloc_below w _).alloc (by simp) _)⟩
/-- A pointer to a table: nil, or a table. -/
def DP (w : World) (q : Value) (L : List DE) : Prop := (q = .pointer none ∧ L = []) ∨ ∃ B b, q = .pointer (some ⟨b, 0, none⟩) ∧ DT w B b L
theorem DP.quiet {w w' : World} {q : Value} {L : List DE} (h : DP w q L) (hb : Below w.heap.size w w') : DP w' q L := by
  rcases h with h | ⟨B, b, h1, h2⟩
  · exact .inl h
  · exact .inr ⟨B, b, h1, h2.quiet hb⟩
theorem at_any (w : World) (q : Value) (L : List DE) (p s : Int) (h : DP w q L) :
    Calls Try.prog 64 #[q, .agg (kc p s)] w fun e w' => e = .returned (.tuple #[.agg (da (atV L p s)), .bool (atB L p s)]) ∧ Below w.heap.size w w' := by
  rcases h with ⟨rfl, rfl⟩ | ⟨B, b, rfl, h⟩
  · exact at_nil w p s
  · exact at_dt w B b L p s h
end Go.Proofs.Ytidmkdaegglepaa
