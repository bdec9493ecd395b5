/- The reference's descriptors: Seek. -/
import Derived.Test.YtidmkdaegglepaaS3
import Derived.Laws.OwnMore
set_option linter.all false
namespace Go.Proofs.Ytidmkdaegglepaa
open Go.RowKit

theorem set5_flat (x : DE) : ∀ (l : List DE) (j : Nat), j < l.length →
    ((((((l.flatMap dc).set (j * 5) (.int .i64 x.pid)).set (j * 5 + 1) (.int .i64 x.slot)).set (j * 5 + 2) (.int .i64 x.kind)).set (j * 5 + 3) (.int .i64 x.obj)).set (j * 5 + 4) (.int .i64 x.off)) = (l.set j x).flatMap dc := by
  intro l
  induction l with
  | nil => intro j h; simp at h
  | cons y r ih =>
    intro j h
    cases j with
    | zero => simp [dc]
    | succ j =>
      have e : ∀ i, (j + 1) * 5 + i = (j * 5 + i) + 5 := by omega
      have e0 : (j + 1) * 5 = (j * 5) + 5 := by omega
      simp only [List.flatMap_cons, List.set_cons_succ, e, e0]
      have hs : ∀ (t : List Value) (i : Nat) (u : Value), (dc y ++ t).set (i + 5) u = dc y ++ t.set i u := by
        intro t i u
        rfl
      rw [hs, hs, hs, hs, hs, ih j (by simpa using h)]
theorem own_set5 {w : World} {B : Nat} {g cap : Nat} {l : List DE} (x : DE) {j : Nat} (hj : j < l.length) (h : w.ownsRow B 26 5 (.slice (some ⟨g, 0, none⟩) l.length cap) l.length (l.flatMap dc)) :
    (((((w.setCell ⟨g, j * 5, none⟩ (.int .i64 x.pid)).setCell ⟨g, j * 5 + 1, none⟩ (.int .i64 x.slot)).setCell ⟨g, j * 5 + 2, none⟩ (.int .i64 x.kind)).setCell ⟨g, j * 5 + 3, none⟩ (.int .i64 x.obj)).setCell ⟨g, j * 5 + 4, none⟩ (.int .i64 x.off)).ownsRow B 26 5 (.slice (some ⟨g, 0, none⟩) l.length cap) l.length ((l.set j x).flatMap dc) := by
  have := (((((h.stored (j * 5) (.int .i64 x.pid)).1.stored (j * 5 + 1) (.int .i64 x.slot)).1.stored (j * 5 + 2) (.int .i64 x.kind)).1.stored (j * 5 + 3) (.int .i64 x.obj)).1.stored (j * 5 + 4) (.int .i64 x.off)).1
  rw [set5_flat x l j hj] at this
  exact this
theorem rt_set5 {w : World} {B rb : Nat} {g cap : Nat} {l : List DE} (x : DE) {j : Nat} (hj : j < l.length) (hb : Blk w rb 35 #[.slice (some ⟨g, 0, none⟩) l.length cap]) (hlow : B ≤ rb) (h : w.ownsRow B 26 5 (.slice (some ⟨g, 0, none⟩) l.length cap) l.length (l.flatMap dc)) :
    RT (((((w.setCell ⟨g, j * 5, none⟩ (.int .i64 x.pid)).setCell ⟨g, j * 5 + 1, none⟩ (.int .i64 x.slot)).setCell ⟨g, j * 5 + 2, none⟩ (.int .i64 x.kind)).setCell ⟨g, j * 5 + 3, none⟩ (.int .i64 x.obj)).setCell ⟨g, j * 5 + 4, none⟩ (.int .i64 x.off)) B rb (l.set j x) ∧
    Mod (RF w B rb) w (((((w.setCell ⟨g, j * 5, none⟩ (.int .i64 x.pid)).setCell ⟨g, j * 5 + 1, none⟩ (.int .i64 x.slot)).setCell ⟨g, j * 5 + 2, none⟩ (.int .i64 x.kind)).setCell ⟨g, j * 5 + 3, none⟩ (.int .i64 x.obj)).setCell ⟨g, j * 5 + 4, none⟩ (.int .i64 x.off)) := by
  have h2 := own_set5 x hj h
  obtain ⟨cur, hB, hcur⟩ : ∃ cur, B ≤ g ∧ Blk w g 26 cur := by
    rcases h.2 with ⟨h1, _⟩ | ⟨g', cap', cur, h1, h3, h4, _⟩
    · cases h1
    · cases h1; exact ⟨cur, h3, h4⟩
  have hne : rb ≠ g := hb.ne_ hcur (by decide)
  have hF : RF w B rb g := .inr ⟨hB, cur, hcur⟩
  refine ⟨⟨hlow, _, ((((hb.far hne _).far hne _).far hne _).far hne _).far hne _, ?_⟩, ?_⟩
  · rw [List.length_set]
    exact h2
  · exact (((((Mod.refl _ w).setCell (.inl hF) _).setCell (.inl hF) _).setCell (.inl hF) _).setCell (.inl hF) _).setCell (.inl hF) _
theorem Blk.drew' {w : World} {g : Nat} {t : TypeId} {cs : Array Value} (h : Blk w g t cs) : Blk w.drew g t cs := h
set_option maxHeartbeats 3200000 in
set_option maxRecDepth 100000 in
theorem rseek (w : World) (B rb : Nat) (l : List DE) (p s off : Int) (h : RT w B rb l) (hG : Good l) (hB : B ≤ w.heap.size) :
    Calls Try.prog 58 #[.pointer (some ⟨rb, 0, none⟩), .int .i64 p, .int .i64 s, .int .i64 off] w fun r w' => r = .returned (.int .i64 (skE l p s off)) ∧ RT w' B rb (skX l p s off) ∧ Mod (RF w B rb) w w' := by
  have hl := hG.len
  have hA := rat w B rb l p s h (by omega)
  rcases hx : look l p s with _ | x
  · have e1 : skE l p s off = 6 := by simp [skE, hx]
    have e2 : skX l p s off = l := by simp [skX, hx]
    rw [e1, e2]
    rw [atI_none hx] at hA
    have HA := Lib.hid hA
    clear hA hx e1 e2
    go_enter Try.func58, Try.ntmps58
    go_wp2_with fail
    refine HA.out.mono ?_
    rintro e w1 ⟨rfl, b1⟩
    have h2 := h.quiet b1
    clear h HA
    go_wp2
    go_ret
    exact ⟨rfl, h2, mod_q b1⟩
  · have hat := (look_at hx).2
    obtain ⟨j, hj, hxj⟩ := atI_some hx
    have hjl : j < l.length := (List.getElem?_eq_some_iff.1 hxj).1
    rw [hj] at hA
    have hR := fun u => rright (mv x off) u
    have HA := Lib.hid hA
    have HX := Lib.hid hxj
    have hset := sk_set (off := off) hG.keys hxj (isAt_iff.2 hat)
    cases hr : rg (mv x off)
    · have e1 : skE l p s off = 1 := by simp [skE, hx, hr]
      have e2 : skX l p s off = l := by simp [skX, hx, hr]
      rw [e1, e2]
      rw [hr] at hR
      have HR := Lib.hid hR
      clear hA hR hx e1 e2 hj hxj hset hr hat
      go_enter Try.func58, Try.ntmps58
      go_wp2_with fail
      refine HA.out.mono ?_
      rintro e w1 ⟨rfl, b1⟩
      have h2 := h.quiet b1
      obtain ⟨_, v, hb, hown⟩ := h2
      have k0 := hb.cell 0
      simp at k0
      obtain ⟨_, a, cap, rfl, hc⟩ := own_inp dc_len hown rfl (by unfold maxLen; omega)
      obtain ⟨b, of, rfl, hbb, hcc⟩ := hc (by omega)
      have c0 := hcc j hjl 0 (by omega)
      have c1 := hcc j hjl 1 (by omega)
      have c2 := hcc j hjl 2 (by omega)
      have c3 := hcc j hjl 3 (by omega)
      have c4 := hcc j hjl 4 (by omega)
      rw [atl_get HX.out (v := .int .i64 x.pid) rfl] at c0
      rw [atl_get HX.out (v := .int .i64 x.slot) rfl] at c1
      rw [atl_get HX.out (v := .int .i64 x.kind) rfl] at c2
      rw [atl_get HX.out (v := .int .i64 x.obj) rfl] at c3
      rw [atl_get HX.out (v := .int .i64 x.off) rfl] at c4
      simp only [Nat.add_zero] at c0
      have ba := b1.alloc b1.size (.cells (da (mv x off)) 26)
      have BA := Lib.hid ba
      clear HA hcc hc hown hb HX ba
      obtain ⟨y1, y2, y3, y4, y5⟩ := x
      unfold da mv at *
      simp only at *
      go_wp2_with fail
      refine (HR.out _).mono ?_
      rintro e w2 ⟨rfl, b2⟩
      have b3 := BA.out.trans (b2.mono BA.out.size)
      have h3 := h.quiet b3
      clear c0 c1 c2 c3 c4 HR k0 b2 BA h
      go_wp2
      go_ret
      exact ⟨rfl, h3, mod_q b3⟩
    · have e1 : skE l p s off = 0 := by simp [skE, hx, hr]
      have e2 : skX l p s off = skL l p s off := by simp [skX, hx, hr]
      rw [e1, e2, hset]
      rw [hr] at hR
      have HR := Lib.hid hR
      clear hA hR hx e1 e2 hj hxj hset hr hat
      go_enter Try.func58, Try.ntmps58
      go_wp2_with fail
      refine HA.out.mono ?_
      rintro e w1 ⟨rfl, b1⟩
      have h2 := h.quiet b1
      obtain ⟨_, v, hb, hown⟩ := h2
      have k0 := hb.cell 0
      simp at k0
      obtain ⟨_, a, cap, rfl, hc⟩ := own_inp dc_len hown rfl (by unfold maxLen; omega)
      obtain ⟨b, of, rfl, hbb, hcc⟩ := hc (by omega)
      have c0 := hcc j hjl 0 (by omega)
      have c1 := hcc j hjl 1 (by omega)
      have c2 := hcc j hjl 2 (by omega)
      have c3 := hcc j hjl 3 (by omega)
      have c4 := hcc j hjl 4 (by omega)
      rw [atl_get HX.out (v := .int .i64 x.pid) rfl] at c0
      rw [atl_get HX.out (v := .int .i64 x.slot) rfl] at c1
      rw [atl_get HX.out (v := .int .i64 x.kind) rfl] at c2
      rw [atl_get HX.out (v := .int .i64 x.obj) rfl] at c3
      rw [atl_get HX.out (v := .int .i64 x.off) rfl] at c4
      simp only [Nat.add_zero] at c0
      have ba := b1.alloc b1.size (.cells (da (mv x off)) 26)
      have hN := Blk.new w1 26 (da (mv x off))
      have hof : of = 0 := by
        rcases hown.2 with ⟨h1, _⟩ | ⟨g, cap', cur, h1, _⟩
        · cases h1
        · cases h1; rfl
      subst hof
      simp only [Nat.zero_add] at c0 c1 c2 c3 c4
      have BA := Lib.hid (And.intro ba (And.intro hN (And.intro hb hown)))
      clear HA hcc hc hown hb HX ba hN
      have hr2 : RT w1 B rb l := h.quiet b1
      have hlow := h.low
      clear h
      obtain ⟨y1, y2, y3, y4, y5⟩ := x
      unfold da mv at *
      simp only at *
      go_wp2_with fail
      refine (HR.out _).mono ?_
      rintro e w2 ⟨rfl, b2⟩
      obtain ⟨q1, q2, q3, q4⟩ := BA.out
      have b12 := (alloc_below w1 (.cells #[.int .i64 y1, .int .i64 y2, .int .i64 y3, .int .i64 y4, .int .i64 off] 26)).trans (b2.mono (by simp))
      have b3 := q1.trans (b2.mono q1.size)
      have hN2 := q2.mod (Mod.of_below b2) (fun h => h)
      have e0 := hN2.cell 0
      have e1 := hN2.cell 1
      have e2 := hN2.cell 2
      have e3 := hN2.cell 3
      have e4 := hN2.cell 4
      simp at e0 e1 e2 e3 e4
      have hb9 := q3.mod (Mod.of_below b12) (fun h => h)
      have ho9 := ownsRow_mod q4 (Mod.of_below b12) (fun _ _ _ _ h => h)
      have k9 := hb9.cell 0
      simp at k9
      have s0 := (b12.cell (p := ⟨b, j * 5, none⟩) hbb).trans c0
      have s1 := (b12.cell (p := ⟨b, j * 5 + 1, none⟩) hbb).trans c1
      have s2 := (b12.cell (p := ⟨b, j * 5 + 2, none⟩) hbb).trans c2
      have s3 := (b12.cell (p := ⟨b, j * 5 + 3, none⟩) hbb).trans c3
      have s4 := (b12.cell (p := ⟨b, j * 5 + 4, none⟩) hbb).trans c4
      have f0 := ho9.frozenAt (j * 5)
      have f1 := ho9.frozenAt (j * 5 + 1)
      have f2 := ho9.frozenAt (j * 5 + 2)
      have f3 := ho9.frozenAt (j * 5 + 3)
      have f4 := ho9.frozenAt (j * 5 + 4)
      have hfin := rt_set5 ⟨y1, y2, y3, y4, off⟩ hjl hb9.drew hlow ho9.drew
      have hm := rmod_via b3.drew hfin.2
      have HH := Lib.hid (And.intro hfin.1 hm)
      clear c0 c1 c2 c3 c4 HR k0 b2 BA q1 q2 q3 q4 hr2 hfin hm hb9 ho9 hN2 b12 b3 b1
      simp only at HH
      go_wp2_with fail
      go_region
      clear e0 e1 e2 e3 e4 s0 s1 s2 s3 s4 f0 f1 f2 f3 f4
      go_wp2
      go_ret
      exact ⟨rfl, HH.out.1, HH.out.2⟩
end Go.Proofs.Ytidmkdaegglepaa
