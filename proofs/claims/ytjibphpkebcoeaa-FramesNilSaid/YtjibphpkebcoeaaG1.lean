/- For every step FramesNil returns true, and the step reads as before. No condition. -/
import Derived.Test.YtjibphpkebcoeaaF6
import Derived.Test.YtjibphpkebcoeaaR0
import Derived.Lib.SmallJoins
set_option linter.all false
namespace Go.Proofs.Ytjibphpkebcoeaa
open Go.ChangeShapes Go.WideShapes Go.ChangeAt Go.RowKit Go.Deep
set_option maxHeartbeats 1600000 in
set_option maxRecDepth 100000 in
theorem framesNil_any (wh a b at_ y : Int) (s : ByteArray) (w : World) :
    Calls Try.prog 7 #[.agg #[.int .i64 wh, .int .i64 a, .int .i64 b, .int .i64 at_, .int .u8 y, .string s]] w fun e w' => e = .returned (.bool true) ∧ Below w.heap.size w w' := by
  have hf : fw 0 a = true := by simp [fw]; omega
  have q0 := Blk.new w 46 #[.int .i64 wh, .int .i64 a, .int .i64 b, .int .i64 at_, .int .u8 y, .string s]
  have t0 := alloc_below w (.cells #[.int .i64 wh, .int .i64 a, .int .i64 b, .int .i64 at_, .int .u8 y, .string s] 46)
  go_enter Try.func7, Try.ntmps7
  go_wp2_with fail
  refine (get_nil _ a at_).mono ?_
  rintro e w1 ⟨rfl, b1⟩
  have q1 := q0.mod (Mod.of_below b1) (fun h => h)
  have t1 := t0.trans (b1.mono t0.size)
  have c1_1 : w1.cell? ⟨w.heap.size, 1, none⟩ = some (.int .i64 a) := q1.cell 1
  have c1_2 : w1.cell? ⟨w.heap.size, 2, none⟩ = some (.int .i64 b) := q1.cell 2
  have c1_3 : w1.cell? ⟨w.heap.size, 3, none⟩ = some (.int .i64 at_) := q1.cell 3
  have c1_5 : w1.cell? ⟨w.heap.size, 5, none⟩ = some (.string s) := q1.cell 5
  clear b1 q0 t0
  go_wp2_with fail
  refine (page_bad _ _ 0 a (.inl ⟨rfl, rfl⟩) hf).mono ?_
  rintro e w2 ⟨rfl, b2⟩
  have q2 := q1.mod (Mod.of_below b2) (fun h => h)
  have t2 := t1.trans (b2.mono t1.size)
  have c2_1 : w2.cell? ⟨w.heap.size, 1, none⟩ = some (.int .i64 a) := q2.cell 1
  have c2_2 : w2.cell? ⟨w.heap.size, 2, none⟩ = some (.int .i64 b) := q2.cell 2
  have c2_3 : w2.cell? ⟨w.heap.size, 3, none⟩ = some (.int .i64 at_) := q2.cell 3
  have c2_5 : w2.cell? ⟨w.heap.size, 5, none⟩ = some (.string s) := q2.cell 5
  clear b2 q1 t1
  clear c1_1 c1_2 c1_3 c1_5
  go_wp2_with fail
  refine (flen_nil _).mono ?_
  rintro e w' ⟨rfl, rfl⟩
  go_wp2_with fail
  refine (set_nil _ a at_ 1).mono ?_
  rintro e w3 ⟨rfl, b3⟩
  have q3 := q2.mod (Mod.of_below b3) (fun h => h)
  have t3 := t2.trans (b3.mono t2.size)
  have c3_1 : w3.cell? ⟨w.heap.size, 1, none⟩ = some (.int .i64 a) := q3.cell 1
  have c3_2 : w3.cell? ⟨w.heap.size, 2, none⟩ = some (.int .i64 b) := q3.cell 2
  have c3_3 : w3.cell? ⟨w.heap.size, 3, none⟩ = some (.int .i64 at_) := q3.cell 3
  have c3_5 : w3.cell? ⟨w.heap.size, 5, none⟩ = some (.string s) := q3.cell 5
  clear b3 q2 t2
  clear c2_1 c2_2 c2_3 c2_5
  go_wp2_with fail
  refine (copy_nil _ a b).mono ?_
  rintro e w4 ⟨rfl, b4⟩
  have q4 := q3.mod (Mod.of_below b4) (fun h => h)
  have t4 := t3.trans (b4.mono t3.size)
  have c4_1 : w4.cell? ⟨w.heap.size, 1, none⟩ = some (.int .i64 a) := q4.cell 1
  have c4_2 : w4.cell? ⟨w.heap.size, 2, none⟩ = some (.int .i64 b) := q4.cell 2
  have c4_3 : w4.cell? ⟨w.heap.size, 3, none⟩ = some (.int .i64 at_) := q4.cell 3
  have c4_5 : w4.cell? ⟨w.heap.size, 5, none⟩ = some (.string s) := q4.cell 5
  clear b4 q3 t3
  clear c3_1 c3_2 c3_3 c3_5
  go_wp2_with fail
  refine (fclear_bad _ _ 0 a (.inl ⟨rfl, rfl⟩) hf).mono ?_
  rintro e w5 ⟨rfl, b5⟩
  have q5 := q4.mod (Mod.of_below b5) (fun h => h)
  have t5 := t4.trans (b5.mono t4.size)
  have c5_1 : w5.cell? ⟨w.heap.size, 1, none⟩ = some (.int .i64 a) := q5.cell 1
  have c5_2 : w5.cell? ⟨w.heap.size, 2, none⟩ = some (.int .i64 b) := q5.cell 2
  have c5_3 : w5.cell? ⟨w.heap.size, 3, none⟩ = some (.int .i64 at_) := q5.cell 3
  have c5_5 : w5.cell? ⟨w.heap.size, 5, none⟩ = some (.string s) := q5.cell 5
  clear b5 q4 t4
  clear c4_1 c4_2 c4_3 c4_5
  go_wp2_with fail
  refine (fload_bad _ _ 0 a s (.inl ⟨rfl, rfl⟩) hf).mono ?_
  rintro e w6 ⟨rfl, b6⟩
  have q6 := q5.mod (Mod.of_below b6) (fun h => h)
  have t6 := t5.trans (b6.mono t5.size)
  have c6_1 : w6.cell? ⟨w.heap.size, 1, none⟩ = some (.int .i64 a) := q6.cell 1
  have c6_2 : w6.cell? ⟨w.heap.size, 2, none⟩ = some (.int .i64 b) := q6.cell 2
  have c6_3 : w6.cell? ⟨w.heap.size, 3, none⟩ = some (.int .i64 at_) := q6.cell 3
  have c6_5 : w6.cell? ⟨w.heap.size, 5, none⟩ = some (.string s) := q6.cell 5
  clear b6 q5 t5
  clear c5_1 c5_2 c5_3 c5_5
  go_wp2_with fail
  refine (seven_any _).mono ?_
  rintro e w9 ⟨rfl, b9⟩
  have t9 := t6.trans (b9.mono t6.size)
  clear t6 b9 q6
  go_wp2
  go_ret
  exact ⟨rfl, t9⟩

/-- A struct by value, its cells read one by one. -/
theorem agg_open {H : Type} {enc : TypeId × Value → H} {P : Program} {w : World} {base : Nat} {spare : Nat → Bool} {held : Bool} {r : Reach} {b0 : Nat} {t : TypeId} {fs : Array Field} {v : Value} {d : DataW H} {p : List MemPlace} (hs : P.underlying t = some (.struct fs)) (hone : oneCellFields P fs = true) (hC : P.cellsOf t = fs.size)
    (hv : Value.okWide P w r b0 t v) (h : DataW.Trod enc P w base spare held t v d p) :
    ∃ cs : Array Value, v = .agg cs ∧ cs.size = fs.size ∧ ∀ (j : Nat) (f : Field), fs[j]? = some f → ∃ c m y, cs[j]? = some c ∧ DataW.trod enc P w base spare held m f.type [c] = some y := by
  obtain ⟨cs, rfl, hsz⟩ := okWide_struct hs hv
  refine ⟨cs, rfl, by rw [hsz, hC], fun j f hj => ?_⟩
  obtain ⟨fuel, hf⟩ := h
  obtain ⟨xs, n, _, _, _, hlen, hg⟩ := DataW.trod_struct hs hf
  obtain ⟨ho, hk⟩ := hone_of hone j f hj
  have hjl : j < fs.size := (Array.getElem?_eq_some_iff.1 hj).1
  have hjc : j < cs.size := by rw [hsz, hC]; exact hjl
  have h1 := hg j f hj
  rw [ho, hk] at h1
  have h2 : ((Value.agg cs).cells.toList.drop j).take 1 = [cs[j]] := by
    show (cs.toList.drop j).take 1 = _
    rw [List.drop_eq_getElem_cons (by simpa using hjc)]
    rfl
  rw [h2] at h1
  exact ⟨cs[j], n, xs[j]'(by omega), Array.getElem?_eq_getElem hjc, h1.trans (List.getElem?_eq_getElem (by omega))⟩

set_option maxRecDepth 100000 in
theorem framesNil_lifted (os : Os) (started : os.Started) (H : Type) (enc : TypeId × Value → H) :
    ReturnsInHanded {} Try.checked os 7 .any (Rows.framesNilSpec.pre6 enc Try.prog Try.f7 Rows.framesNilRow.domain false) (Rows.framesNilSpec.post enc Try.prog Try.f7 false true false false) := by
  refine returnsInHanded_of_change (C := Try.checked) Try.own started (by kernel_rfl) Try.func7
    (ChangeSpec.witness6 (enc := enc) (C := Try.checked) false ⟨#[], #[.agg #[.int .i64 0, .int .i64 0, .int .i64 0, .int .i64 0, .int .u8 0, .string ByteArray.empty]], []⟩ 8 (by kernel_rfl) (by kernel_rfl) (by kernel_rfl) (by kernel_rfl)) ?_
  intro W base args ds gs before hval0 hW _ _
  have hval : ∀ (j : Nat) t v, Try.f7.params[j]? = some t → args[j]? = some v → Value.okWide Try.prog W .any base t v := hval0
  have hW' := hW
  obtain ⟨p, q, hA0, hV, rfl, _, _⟩ := hW
  have hA : DataW.TrodAll enc Try.prog W 0 (fun _ => true) true Try.f7.params.toList args.toList ds p := hA0
  rw [Try.params7] at hA hval
  obtain ⟨v0, vs0, d0, ds0, p0, q0, hargs, rfl, rfl, h0, r0⟩ := trodAll_cons hA
  obtain ⟨rfl, rfl, rfl⟩ := trodAll_nil r0
  obtain rfl : args = #[v0] := by cases args; simp_all
  obtain ⟨rfl, rfl⟩ := trodVars_none hV
  clear hA0 hval0
  have lt0 : ∀ x ∈ p0, x.block < W.heap.size := by obtain ⟨m, hm⟩ := h0; exact DataW.trod_lt m _ _ _ hm
  have k0 := h0
  obtain ⟨cs0, rfl, hsz0, hcs0⟩ := agg_open Try.underlying46 (by kernel_rfl) (by kernel_rfl) (hval 0 46 v0 rfl rfl) h0
  obtain ⟨c0_0, m0_0, y0_0, e0_0, r0_0⟩ := hcs0 0 _ rfl
  obtain ⟨x0_0, rfl, wf0_0⟩ := cell_int Try.underlying3 ⟨_, _, r0_0⟩
  obtain ⟨c0_1, m0_1, y0_1, e0_1, r0_1⟩ := hcs0 1 _ rfl
  obtain ⟨x0_1, rfl, wf0_1⟩ := cell_int Try.underlying3 ⟨_, _, r0_1⟩
  obtain ⟨c0_2, m0_2, y0_2, e0_2, r0_2⟩ := hcs0 2 _ rfl
  obtain ⟨x0_2, rfl, wf0_2⟩ := cell_int Try.underlying3 ⟨_, _, r0_2⟩
  obtain ⟨c0_3, m0_3, y0_3, e0_3, r0_3⟩ := hcs0 3 _ rfl
  obtain ⟨x0_3, rfl, wf0_3⟩ := cell_int Try.underlying3 ⟨_, _, r0_3⟩
  obtain ⟨c0_4, m0_4, y0_4, e0_4, r0_4⟩ := hcs0 4 _ rfl
  obtain ⟨x0_4, rfl, wf0_4⟩ := cell_int Try.underlying5 ⟨_, _, r0_4⟩
  obtain ⟨c0_5, m0_5, y0_5, e0_5, r0_5⟩ := hcs0 5 _ rfl
  obtain ⟨x0_5, rfl, wf0_5⟩ := cell_string Try.underlying9 ⟨_, _, r0_5⟩
  have ecs0 : cs0 = #[.int .i64 x0_0, .int .i64 x0_1, .int .i64 x0_2, .int .i64 x0_3, .int .u8 x0_4, .string x0_5] := by
    apply Array.ext_getElem?
    intro i
    match i with
    | 0 => exact e0_0
    | 1 => exact e0_1
    | 2 => exact e0_2
    | 3 => exact e0_3
    | 4 => exact e0_4
    | 5 => exact e0_5
    | k + 6 => rw [Array.getElem?_eq_none (by rw [hsz0]; show 6 ≤ k + 6; omega), Array.getElem?_eq_none (by show 6 ≤ k + 6; omega)]
  subst ecs0
  refine (framesNil_any x0_0 x0_1 x0_2 x0_3 x0_4 x0_5 W).mono fun e W' ⟨he, bel⟩ => ?_
  subst he
  exact ⟨_, rfl, _, _, _, [], _, [], hW', trodAll_mk1 (shut_bool Try.underlying4 _), (trodAll_cons_mk (Below.trod Try.laidOut (by kernel_rfl) (of_decide_eq_true (by kernel_rfl)) k0 bel lt0) trodAll_mk0), rfl, bel.frame _, fun h => by cases h⟩

theorem framesNil_holds : Rows.FramesNilSaid :=
  OpenClaim.holds_of_wide 7 Try.f7 rfl rfl rfl rfl rfl rfl rfl ⟨rfl, rfl, rfl, rfl, rfl⟩ rfl rfl rfl rfl rfl (by kernel_rfl) Try.func7 (by kernel_rfl)
    (of_decide_eq_true (by kernel_rfl)) (by unfold Func.isWrapper; first | (rw [if_pos (by decide +kernel)]; kernel_rfl) | (rw [if_neg (by decide +kernel)]; exact ⟨rfl, rfl⟩))
    (fun os started H enc _ => framesNil_lifted os started H enc)
#print axioms framesNil_holds
end Go.Proofs.Ytjibphpkebcoeaa
