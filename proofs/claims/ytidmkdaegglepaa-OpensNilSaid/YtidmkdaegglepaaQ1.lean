/- The reference's descriptors: words, At. -/
import Derived.Test.YtidmkdaegglepaaM9
set_option linter.all false
namespace Go.Proofs.Ytidmkdaegglepaa
open Go.RowKit

theorem Try.info26 : (Try.prog.info? 26).map (fun i => (i.zero, i.size, i.bytes)) = some (some (.agg #[.int .i64 0, .int .i64 0, .int .i64 0, .int .i64 0, .int .i64 0]), 5, 40) := by kernel_rfl
/-- The reference's table at block rb: its list l. -/
structure RT (w : World) (B rb : Nat) (l : List DE) : Prop where
  low : B ≤ rb
  tab : ∃ v, Blk w rb 35 #[v] ∧ w.ownsRow B 26 5 v l.length (l.flatMap dc)
def RF (w : World) (B rb : Nat) (k : Nat) : Prop := k = rb ∨ (B ≤ k ∧ ∃ cur, Blk w k 26 cur)
theorem RT.lt {w : World} {B rb : Nat} {l : List DE} (h : RT w B rb l) : rb < w.heap.size := by
  obtain ⟨v, hb, _⟩ := h.tab
  exact hb.lt
theorem RT.mod {F : Nat → Prop} {w w' : World} {B rb : Nat} {l : List DE} (h : RT w B rb l) (hm : Mod F w w') (hF : ∀ k, RF w B rb k → ¬ F k) : RT w' B rb l := by
  obtain ⟨h1, v, hb, ho⟩ := h
  exact ⟨h1, v, hb.mod hm (hF rb (.inl rfl)), ownsRow_mod ho hm fun g cur hg hbk => hF g (.inr ⟨(ho.lt g hg).1, cur, hbk⟩)⟩
theorem RT.quiet {w w' : World} {B rb : Nat} {l : List DE} (h : RT w B rb l) (hb : Below w.heap.size w w') : RT w' B rb l := h.mod (Mod.of_below hb) (fun _ _ h => h)
theorem RF.low {w : World} {B rb : Nat} {l : List DE} (h : RT w B rb l) : ∀ k, RF w B rb k → B ≤ k := by
  rintro k (rfl | ⟨hk, _⟩)
  · exact h.low
  · exact hk
theorem RF.type {w : World} {B rb : Nat} {l : List DE} (h : RT w B rb l) {k : Nat} {t : TypeId} {cs : Array Value} (hk : Blk w k t cs) (h1 : t ≠ 35) (h2 : t ≠ 26) : ¬ RF w B rb k := by
  rintro (rfl | ⟨_, cur, hb⟩)
  · obtain ⟨v, hb, _⟩ := h.tab
    exact (hb.ne_ hk h1.symm) rfl
  · exact (hb.ne_ hk h2.symm) rfl
theorem RT.bl {w w' : World} {B rb : Nat} {l : List DE} (h : RT w B rb l) (hB : B ≤ w.heap.size) (hm : Mod (RF w B rb) w w') : Below B w w' := hm.below hB (RF.low h)
theorem RT.store {w : World} {B B' rb : Nat} {l : List DE} {v0 v : Value} (h : Blk w rb 35 #[v0]) (hl : B ≤ rb) (hB : B ≤ B') (ho : w.ownsRow B' 26 5 v l.length (l.flatMap dc)) :
    RT (w.setCell ⟨rb, 0, none⟩ v) B rb l :=
  ⟨hl, v, h.set_ 0 v, own_base (own_set ho h (by decide) 0 v) hB⟩
theorem RF.back {w V : World} {B b : Nat} (hb : Below w.heap.size w V) : ∀ i, i < w.heap.size → RF V B b i → RF w B b i := by
  rintro i hi (rfl | ⟨h1, cur, h2⟩)
  · exact .inl rfl
  · exact .inr ⟨h1, cur, (hb.block i hi).symm.trans h2⟩
theorem rmod_via {w V W : World} {B b : Nat} (hb : Below w.heap.size w V) (hm : Mod (RF V B b) V W) : Mod (RF w B b) w W := (mod_q hb).trans hm (RF.back hb)

/-- Where a descriptor stands; -1: nowhere. -/
def atI (l : List DE) (p s : Int) : Int := match l.findIdx? (isAt p s) with | some i => (i : Int) | none => -1
theorem atI_at {l : List DE} {p s : Int} {j : Nat} {x : DE} (hx : l[j]? = some x) (ha : isAt p s x = true) (hb : ∀ m : Nat, m < j → ∀ y, l[m]? = some y → isAt p s y = false) : atI l p s = j := by
  obtain ⟨hj, rfl⟩ := List.getElem?_eq_some_iff.1 hx
  have : l.findIdx? (isAt p s) = some j := by
    rw [List.findIdx?_eq_some_iff_getElem]
    exact ⟨hj, ha, fun m hm => by simp [hb m hm _ (List.getElem?_eq_getElem (by omega))]⟩
  rw [atI, this]
theorem atI_no {l : List DE} {p s : Int} (h : ∀ m : Nat, m < l.length → ∀ y, l[m]? = some y → isAt p s y = false) : atI l p s = -1 := by
  have : l.findIdx? (isAt p s) = none := by
    rw [List.findIdx?_eq_none_iff]
    intro x hx
    obtain ⟨m, hm, rfl⟩ := List.mem_iff_getElem.1 hx
    exact h m hm _ (List.getElem?_eq_getElem hm)
  rw [atI, this]
theorem atI_look (l : List DE) (p s : Int) : (atI l p s = -1 ∧ look l p s = none) ∨ ∃ (j : Nat) (x : DE), atI l p s = j ∧ look l p s = some x ∧ l[j]? = some x ∧ ∀ m : Nat, m < j → ∀ y, l[m]? = some y → isAt p s y = false := by
  rcases h : l.findIdx? (isAt p s) with _ | j
  · refine .inl ⟨by rw [atI, h], ?_⟩
    rw [List.findIdx?_eq_none_iff] at h
    exact look_none.2 fun x hx h2 => by have := h x hx; rw [isAt_iff.2 h2] at this; cases this
  · have h' := h
    rw [List.findIdx?_eq_some_iff_getElem] at h'
    obtain ⟨hj, ha, hb⟩ := h'
    refine .inr ⟨j, l[j], by rw [atI, h], ?_, List.getElem?_eq_getElem hj, fun m hm y hy => ?_⟩
    · unfold look
      rw [List.find?_eq_some_iff_getElem]
      exact ⟨ha, j, hj, rfl, fun m hm => by have := hb m hm; simpa using this⟩
    · obtain ⟨hm2, rfl⟩ := List.getElem?_eq_some_iff.1 hy
      have := hb m hm
      simpa using this
set_option maxHeartbeats 3200000 in
set_option maxRecDepth 100000 in
theorem rat (w : World) (B rb : Nat) (l : List DE) (p s : Int) (h : RT w B rb l) (hl : l.length ≤ 1000) :
    Calls Try.prog 25 #[.pointer (some ⟨rb, 0, none⟩), .int .i64 p, .int .i64 s] w fun e w' => e = .returned (.int .i64 (atI l p s)) ∧ Below w.heap.size w w' := by
  obtain ⟨_, v, hb, hown⟩ := h
  have k0 := hb.cell 0
  simp at k0
  have hin := own_inp dc_len hown rfl (by unfold maxLen; omega)
  obtain ⟨_, a, cap, rfl, hc⟩ := hin
  clear hown hb
  go_enter Try.func25, Try.ntmps25
  go_wp2_with fail
  go_loopw [14] (fun i wr => ∃ j : Nat, j ≤ l.length ∧ i = .int .i64 j ∧ Hid (∀ m : Nat, m < j → ∀ y, l[m]? = some y → isAt p s y = false) ∧ Below w.heap.size w wr) (fun i _ => l.length - (intOf i).toNat)
  case atStart => exact ⟨0, by omega, rfl, fun m hm => absurd hm (by omega), Below.refl _ _⟩
  case round =>
    obtain ⟨j, hj, rfl, hno, hbel⟩ := hrel
    have hsz := hbel.size
    by_cases hlt : j < l.length
    · obtain ⟨b, off, rfl, hb, hcc⟩ := hc (by omega)
      have hx : l[j]? = some (l[j]'hlt) := List.getElem?_eq_getElem hlt
      generalize l[j]'hlt = x at hx
      have c0 := (hbel.cell (p := ⟨b, _, none⟩) hb).trans (hcc j hlt 0 (by omega))
      have c1 := (hbel.cell (p := ⟨b, _, none⟩) hb).trans (hcc j hlt 1 (by omega))
      have c2 := (hbel.cell (p := ⟨b, _, none⟩) hb).trans (hcc j hlt 2 (by omega))
      have c3 := (hbel.cell (p := ⟨b, _, none⟩) hb).trans (hcc j hlt 3 (by omega))
      have c4 := (hbel.cell (p := ⟨b, _, none⟩) hb).trans (hcc j hlt 4 (by omega))
      rw [atl_get hx (v := .int .i64 x.pid) rfl] at c0
      rw [atl_get hx (v := .int .i64 x.slot) rfl] at c1
      rw [atl_get hx (v := .int .i64 x.kind) rfl] at c2
      rw [atl_get hx (v := .int .i64 x.obj) rfl] at c3
      rw [atl_get hx (v := .int .i64 x.off) rfl] at c4
      simp only [Nat.add_zero] at c0
      have HX := Lib.hid hx
      have hnext : isAt p s x = false → ∀ m : Nat, m < j + 1 → ∀ y, l[m]? = some y → isAt p s y = false := by
        intro hf m hm y hy
        rcases Nat.lt_or_ge m j with h1 | h1
        · exact hno.out m h1 y hy
        · obtain rfl : m = j := by omega
          rw [HX.out] at hy
          cases hy
          exact hf
      have HN := Lib.hid hnext
      clear hcc hc hx hnext
      by_cases e1 : x.pid = p
      · have d1 : (x.pid == p) = true := by simpa using e1
        by_cases e2 : x.slot = s
        · have d2 : (x.slot == s) = true := by simpa using e2
          have ha := atI_at HX.out (isAt_iff.2 ⟨e1, e2⟩) hno.out
          have HA := Lib.hid ha
          clear ha e1 e2 HN HX
          go_wp2
          go_ret
          rw [HA.out]
          exact ⟨rfl, hbel.alloc hsz _⟩
        · have d2 : (x.slot == s) = false := by simpa using e2
          have hf := HN.out (by simp [isAt, d2])
          have HF := Lib.hid hf
          clear hf e1 e2 HN HX
          go_wp2
          go_roundw
          case rel => exact ⟨j + 1, by omega, by go_num, HF, hbel.alloc hsz _⟩
          case measure => simp [intOf]; omega
      · have d1 : (x.pid == p) = false := by simpa using e1
        have hf := HN.out (by simp [isAt, d1])
        have HF := Lib.hid hf
        clear hf e1 HN HX
        go_wp2
        go_roundw
        case rel => exact ⟨j + 1, by omega, by go_num, HF, hbel.alloc hsz _⟩
        case measure => simp [intOf]; omega
    · obtain rfl : j = l.length := by omega
      have ha := atI_no hno.out
      have HA := Lib.hid ha
      clear ha hno hc
      go_wp2
      go_ret
      rw [HA.out]
      exact ⟨rfl, hbel⟩
end Go.Proofs.Ytidmkdaegglepaa
