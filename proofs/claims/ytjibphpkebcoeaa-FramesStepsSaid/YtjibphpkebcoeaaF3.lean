/- Frames: Set, Copy. -/
import Derived.Test.YtjibphpkebcoeaaF2
set_option linter.all false
namespace Go.Proofs.Ytjibphpkebcoeaa
open Go.RowKit

theorem bcs_set (xs : List UInt8) (i : Nat) (x : UInt8) : (bcs xs).setIfInBounds i (bc x) = bcs (xs.set i x) := by
  simp [bcs]
def setL (xs : List UInt8) : Nat → List UInt8 → List UInt8
  | _, [] => xs
  | o, y :: r => setL (xs.set o y) (o + 1) r
theorem setL_len (ys : List UInt8) : ∀ (xs : List UInt8) (o : Nat), (setL xs o ys).length = xs.length := by
  induction ys with
  | nil => intro xs o; rfl
  | cons y r ih => intro xs o; rw [setL, ih, List.length_set]
theorem blk_setCells {g : Nat} {t : TypeId} (ys : List UInt8) : ∀ (w : World) (xs : List UInt8) (o : Nat), Blk w g t (bcs xs) → Blk (w.setCells g o (ys.map bc)) g t (bcs (setL xs o ys)) := by
  induction ys with
  | nil => intro w xs o h; exact h
  | cons y r ih =>
    intro w xs o h
    have h1 := h.set_ o (bc y)
    rw [bcs_set] at h1
    exact ih _ _ (o + 1) h1
theorem mod_setCells {F : Nat → Prop} {a : World} {g : Nat} (vs : List Value) (hg : F g ∨ a.heap.size ≤ g) : ∀ (w : World) (o : Nat), Mod F a w → Mod F a (w.setCells g o vs) := by
  induction vs with
  | nil => intro w o h; exact h
  | cons y r ih => intro w o h; exact ih _ (o + 1) (h.setCell (p := ⟨g, o, none⟩) hg y)
theorem FR.put {w : World} {B b n g : Nat} {xs : List UInt8} (h : FR w B b n xs) (hb : Blk w b 88 #[.slice (some ⟨g, 0, none⟩) n n]) (i : Nat) (x : UInt8) :
    FR (w.setCell ⟨g, i, none⟩ (bc x)) B b n (xs.set i x) ∧ FO w B b g := by
  obtain ⟨h1, h2, h3, g', hb', hg, hl⟩ := h
  have e : g' = g := by
    unfold Blk at hb hb'
    rw [hb] at hb'
    simp at hb'
    exact hb'.symm
  subst e
  have h4 := hg.set_ i (bc x)
  rw [bcs_set] at h4
  exact ⟨⟨h1, h2, by rw [List.length_set]; exact h3, g', hb.far (p := ⟨g', i, none⟩) (hb.ne_ hg (by decide)) _, h4, hl⟩, .inr ⟨hl, _, hg⟩⟩
theorem FR.puts {w : World} {B b n g : Nat} {xs : List UInt8} (h : FR w B b n xs) (hb : Blk w b 88 #[.slice (some ⟨g, 0, none⟩) n n]) (o : Nat) (ys : List UInt8) :
    FR (w.setCells g o (ys.map bc)) B b n (setL xs o ys) ∧ FO w B b g := by
  obtain ⟨h1, h2, h3, g', hb', hg, hl⟩ := h
  have e : g' = g := by
    unfold Blk at hb hb'
    rw [hb] at hb'
    simp at hb'
    exact hb'.symm
  subst e
  have hm : Mod (fun k => k = g') w (w.setCells g' o (ys.map bc)) := mod_setCells (F := fun k => k = g') _ (.inl rfl) w o (Mod.refl _ _)
  exact ⟨⟨h1, h2, by rw [setL_len]; exact h3, g', hb.mod hm (hb.ne_ hg (by decide)), blk_setCells ys w xs o hg, hl⟩, .inr ⟨hl, _, hg⟩⟩

set_option maxHeartbeats 800000 in
theorem set_nil (w : World) (f at_ : Int) (x : UInt8) :
    Calls Try.prog 30 #[.pointer none, .int .i64 f, .int .i64 at_, bc x] w fun e w' => e = .returned (.int .i64 6) ∧ Below w.heap.size w w' := by
  have hf : fw 0 f = true := by simp [fw]; omega
  unfold bc
  go_enter Try.func30, Try.ntmps30
  go_wp2_with (go_at_call 44; refine (spot_frame w _ 0 f at_ (.inl ⟨rfl, rfl⟩) hf).mono ?_; rintro e w' ⟨rfl, hb⟩)
  go_ret
  exact ⟨rfl, hb⟩
set_option maxHeartbeats 800000 in
theorem set_fr (w : World) (B b n : Nat) (xs : List UInt8) (f at_ : Int) (x : UInt8) (h : FR w B b n xs) :
    Calls Try.prog 30 #[.pointer (some ⟨b, 0, none⟩), .int .i64 f, .int .i64 at_, bc x] w fun e w' => e = .returned (.int .i64 (gtE n f at_)) ∧ FR w' B b n (stX n xs f at_ x) ∧ Mod (FO w B b) w w' := by
  have hp : FP w (.pointer (some ⟨b, 0, none⟩)) n := .inr ⟨B, b, xs, rfl, h⟩
  have hmm : ∀ {w' : World}, Below w.heap.size w w' → FR w' B b n xs ∧ Mod (FO w B b) w w' := fun hb => ⟨h.quiet hb, (Mod.of_below hb).mono (fun _ _ h => h.elim)⟩
  have HM := @hmm
  clear hmm
  by_cases hf : fw n f = true
  · have e1 : stX n xs f at_ x = xs := by simp [stX, hf]
    have e2 : gtE n f at_ = 6 := by simp [gtE, hf]
    rw [e1, e2]
    unfold bc
    go_enter Try.func30, Try.ntmps30
    go_wp2_with (go_at_call 44; refine (spot_frame w _ n f at_ hp hf).mono ?_; rintro e w' ⟨rfl, hb⟩)
    go_ret
    exact ⟨rfl, HM hb⟩
  have hf' : fw n f = false := by simpa using hf
  by_cases ha : at_ < 0 ∨ 16 ≤ at_
  · have e1 : stX n xs f at_ x = xs := by simp [stX, hf', ha]
    have e2 : gtE n f at_ = 1 := by simp [gtE, hf', ha]
    rw [e1, e2]
    unfold bc
    go_enter Try.func30, Try.ntmps30
    go_wp2_with (go_at_call 44; refine (spot_at w _ n f at_ hp hf' ha).mono ?_; rintro e w' ⟨rfl, hb⟩)
    go_ret
    exact ⟨rfl, HM hb⟩
  obtain ⟨k, rfl, hk⟩ := fw_no hf'
  obtain ⟨j, rfl⟩ := Int.eq_ofNat_of_zero_le (show 0 ≤ at_ by omega)
  have hj : j < 16 := by omega
  have e1 : stX n xs k j x = xs.set (k * 16 + j) x := by simp [stX, hf', ha]
  have e2 : gtE n k j = 0 := by simp [gtE, hf', ha]
  rw [e1, e2]
  have h0 := h
  obtain ⟨_, _, hlen, g, hb, hg, _⟩ := h
  have c0 := hg.cell (k * 16 + j)
  have f0 := hg.frozen (k * 16 + j)
  have hlt : k * 16 + j < xs.length := by omega
  rw [bcs_get, List.getElem?_eq_getElem hlt, Option.map_some] at c0
  generalize bc xs[k * 16 + j] = y at c0
  have hl := hg.lt
  have hbl := alloc_below w (.cells #[.int .i64 k] 3)
  have hfin := (FR.put h0 hb (k * 16 + j) x).1.quiet (alloc_below _ (.cells #[.int .i64 k] 3))
  have hmod : ∀ u, Mod (FO w B b) w ((w.setCell ⟨g, k * 16 + j, none⟩ u).alloc (.cells #[.int .i64 (k : Int)] 3)) := fun u =>
    ((Mod.refl _ w).setCell (.inl (.inr ⟨‹B ≤ g›, _, hg⟩)) u).alloc _
  have HB := Lib.hid hb
  have HF := Lib.hid hfin
  have HMo := Lib.hid hmod
  clear e1 e2 hf hf' ha hb hfin hmod
  unfold bc at HF ⊢
  go_enter Try.func30, Try.ntmps30
  go_wp2_with (go_at_call 44; refine (spot_ok w B b n g xs k j h0 HB.out hk hj).mono ?_; rintro e w' ⟨rfl, rfl⟩)
  go_ret
  exact ⟨rfl, HF.out, HMo.out _⟩

/-- A frame's bytes. -/
def pgL (xs : List UInt8) (f : Nat) : List UInt8 := (xs.drop (f * 16)).take 16
theorem pgL_len {xs : List UInt8} {n f : Nat} (h : xs.length = 16 * n) (hf : f < n) : (pgL xs f).length = 16 := by
  simp [pgL]; omega
theorem range_pg {w : World} {g n f : Nat} {xs : List UInt8} (hg : Blk w g 91 (bcs xs)) : w.rangeAt g (f * 16) ((pgL xs f).map bc) := by
  intro j v hj
  rw [hg.cell, bcs_get]
  simp only [List.getElem?_map, pgL, List.getElem?_take, List.getElem?_drop] at hj
  split at hj
  · exact hj
  · simp at hj
theorem there_pg {w : World} {g n f : Nat} {xs : List UInt8} (hg : Blk w g 91 (bcs xs)) (h : xs.length = 16 * n) (hf : f < n) : w.there g (f * 16) 16 := by
  intro j hj
  refine ⟨?_, hg.frozen _⟩
  rw [hg.cell, bcs_get, List.getElem?_eq_getElem (by omega)]
  rfl
theorem ones_bc (ys : List UInt8) : (ys.map bc).toArray.all (·.oneCell') = true := by
  refine Go.all_oneCell_toArray fun v hv => ?_
  obtain ⟨y, _, rfl⟩ := List.mem_map.1 hv
  rfl
/-- A frame's load and store, kept closed. -/
noncomputable def LD91 (p : Value) : Sem Value := Instr.loadAt 91 p
noncomputable def ST91 (p v : Value) : Sem Unit := Instr.storeAt 91 p v
theorem LD91_eq (p : Value) : Instr.loadAt 91 p = LD91 p := rfl
theorem ST91_eq (p v : Value) : Instr.storeAt 91 p v = ST91 p v := rfl
theorem load_pg {w : World} {g n f : Nat} {xs : List UInt8} (hg : Blk w g 91 (bcs xs)) (h : xs.length = 16 * n) (hf : f < n) :
    (LD91 (.pointer (some ⟨g, f * 16, none⟩))).run Try.prog w = .ok (.agg ((pgL xs f).map bc).toArray) w :=
  run_loadAt_mid w g (f * 16) 91 ((pgL xs f).map bc) _ (range_pg (n := n) hg) Try.underlying91 rfl (by rw [List.length_map, pgL_len h hf]; kernel_rfl)
theorem store_pg {w : World} {g n f : Nat} {xs ys : List UInt8} (hg : Blk w g 91 (bcs xs)) (h : xs.length = 16 * n) (hf : f < n) (hy : ys.length = 16) :
    (ST91 (.pointer (some ⟨g, f * 16, none⟩)) (.agg (ys.map bc).toArray)).run Try.prog w = .ok () (w.setCells g (f * 16) (ys.map bc)) := by
  have := run_storeAt_mid (P := Try.prog) w g (f * 16) 91 (ys.map bc).toArray (by simpa [hy] using there_pg hg h hf) (by simp only [List.size_toArray, List.length_map, hy]; kernel_rfl) (ones_bc ys)
  rw [List.toList_toArray] at this
  exact this

attribute [local go_sem ↓] LD91_eq ST91_eq
def cpE (n : Nat) (f t : Int) : Int := fwE n [f, t]
def cpX (n : Nat) (xs : List UInt8) (f t : Int) : List UInt8 := if fwE n [f, t] = 6 then xs else setL xs (t.toNat * 16) (pgL xs f.toNat)
theorem fwE_or (n : Nat) (l : List Int) : fwE n l = 6 ∨ (fwE n l = 0 ∧ ∀ x ∈ l, fw n x = false) := by
  unfold fwE
  by_cases h : l.any (fw n) = true
  · simp [h]
  · refine .inr ⟨by simp [h], fun x hx => ?_⟩
    cases hv : fw n x
    · rfl
    · exact absurd (List.any_eq_true.2 ⟨x, hx, hv⟩) h

set_option maxHeartbeats 800000 in
theorem copy_nil (w : World) (f t : Int) :
    Calls Try.prog 22 #[.pointer none, .int .i64 f, .int .i64 t] w fun e w' => e = .returned (.int .i64 6) ∧ Below w.heap.size w w' := by
  have hf : fwE 0 [f, t] = 6 := by
    have : fw 0 f = true := by simp [fw]; omega
    simp [fwE, this]
  have hb := alloc_below w (.cells #[.int .i64 f, .int .i64 t] 3)
  have hi := inp_two w f t
  have HE := Lib.hid hf
  clear hf
  go_enter Try.func22, Try.ntmps22
  go_wp2_with (go_at_call 40; refine (wrong_any _ _ _ 0 [f, t] (.inl ⟨rfl, rfl⟩) hi (by simp)).mono ?_; rintro e w' ⟨rfl, rfl⟩; rw [HE.out])
  go_ret
  exact ⟨rfl, hb⟩
set_option maxHeartbeats 1600000 in
set_option maxRecDepth 100000 in
theorem copy_fr (w : World) (B b n : Nat) (xs : List UInt8) (f t : Int) (h : FR w B b n xs) :
    Calls Try.prog 22 #[.pointer (some ⟨b, 0, none⟩), .int .i64 f, .int .i64 t] w fun e w' => e = .returned (.int .i64 (cpE n f t)) ∧ FR w' B b n (cpX n xs f t) ∧ Mod (FO w B b) w w' := by
  have hb1 := alloc_below w (.cells #[.int .i64 f, .int .i64 t] 3)
  have hi := inp_two w f t
  have h1 := h.quiet hb1
  have hp : FP (w.alloc (.cells #[.int .i64 f, .int .i64 t] 3)) (.pointer (some ⟨b, 0, none⟩)) n := .inr ⟨B, b, xs, rfl, h1⟩
  rcases fwE_or n [f, t] with he | ⟨he, hall⟩
  · have e1 : cpX n xs f t = xs := by simp [cpX, he]
    have e2 : cpE n f t = 6 := he
    rw [e1, e2]
    have HE := Lib.hid he
    clear he e1 e2
    go_enter Try.func22, Try.ntmps22
    go_wp2_with (go_at_call 40; refine (wrong_any _ _ _ n [f, t] hp hi (by simp)).mono ?_; rintro e w' ⟨rfl, rfl⟩; rw [HE.out])
    go_ret
    exact ⟨rfl, h1, (Mod.of_below hb1).mono (fun _ _ h => h.elim)⟩
  · obtain ⟨i, rfl, hi1⟩ := fw_no (hall f (by simp))
    obtain ⟨j, rfl, hj1⟩ := fw_no (hall t (by simp))
    have e1 : cpX n xs i j = setL xs (j * 16) (pgL xs i) := by simp [cpX, he]
    have e2 : cpE n i j = 0 := he
    rw [e1, e2]
    have HE := Lib.hid he
    clear he e1 e2 hall
    obtain ⟨_, hpos, hlen, g, hb, hg, hBg⟩ := h1
    have h1 := h.quiet hb1
    have k0 := hb.cell 0
    simp at k0
    have hgd : Blk (w.alloc (.cells #[.int .i64 (i : Int), .int .i64 (j : Int)] 3)).drew g 91 (bcs xs) := hg
    have L1 := load_pg hgd hlen hi1
    have S1 := store_pg hgd hlen hj1 (pgL_len hlen hi1)
    go_enter Try.func22, Try.ntmps22
    go_wp2_with (go_at_call 40; refine (wrong_any _ _ _ n [(i : Int), (j : Int)] hp hi (by simp)).mono ?_; rintro e w' ⟨rfl, rfl⟩; rw [HE.out])
    have hd := h1.quiet (Below.refl _ _).drew
    have hfin := (FR.puts hd hb (j * 16) (pgL xs i)).1
    have hmod := mod_setCells ((pgL xs i).map bc) (F := FO w B b) (a := w) (g := g) (by
      rcases Nat.lt_or_ge g w.heap.size with hlt | hge
      · exact .inl (.inr ⟨hBg, _, by unfold Blk; rw [← hb1.block g hlt]; exact hg⟩)
      · exact .inr hge) _ (j * 16) (((Mod.refl (FO w B b) w).alloc (.cells #[.int .i64 (i : Int), .int .i64 (j : Int)] 3)).drew)
    have HF := Lib.hid hfin
    have HM := Lib.hid hmod
    clear hfin hmod hd
    go_region
    go_wp2
    go_ret
    exact ⟨rfl, HF.out, HM.out⟩
end Go.Proofs.Ytjibphpkebcoeaa
