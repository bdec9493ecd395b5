/- 'does' (frames): the memory and the reference do a step alike. -/
import Derived.Test.YtjibphpkebcoeaaH3
set_option linter.all false
namespace Go.Proofs.Ytjibphpkebcoeaa
open Go.RowKit

structure FSt where
  what : Int
  a : Int
  b : Int
  at_ : Int
  y : UInt8
  s : ByteArray
def fbx (t : FSt) : Array Value := #[.int .i64 t.what, .int .i64 t.a, .int .i64 t.b, .int .i64 t.at_, .int .u8 (t.y.toNat : Int), .string t.s]

/-- Both memories, and a local step at block N. -/
structure FB (w : World) (B b rb n : Nat) (xs ys : List UInt8) (N : Nat) (cs : Array Value) : Prop where
  p : FR w B b n xs
  r : RM w B rb n ys
  loc : Blk w N 46 cs
  hB : B ≤ w.heap.size
theorem FB.enter {w : World} {B b rb n : Nat} {xs ys : List UInt8} (hp : FR w B b n xs) (hr : RM w B rb n ys) (hB : B ≤ w.heap.size) (cs : Array Value) : FB (w.alloc (.cells cs 46)) B b rb n xs ys w.heap.size cs :=
  ⟨hp.quiet (alloc_below _ _), hr.quiet (alloc_below _ _), Blk.new _ _ _, by simp; omega⟩
theorem FB.drew {w : World} {B b rb n : Nat} {xs ys : List UInt8} {N : Nat} {cs : Array Value} (h : FB w B b rb n xs ys N cs) : FB w.drew B b rb n xs ys N cs :=
  ⟨h.p.quiet (Below.refl _ w).drew, h.r.quiet (Below.refl _ w).drew, h.loc, h.hB⟩
theorem FO.notRO {w : World} {B b rb n : Nat} {xs ys : List UInt8} (hp : FR w B b n xs) (hr : RM w B rb n ys) : ∀ k, RO w B rb k → ¬ FO w B b k := by
  obtain ⟨g, cap, cur, hb, _⟩ := hr.tab
  rintro k (rfl | ⟨_, cur, hc⟩)
  · exact FO.type hp hb (by decide) (by decide)
  · exact FO.type hp hc (by decide) (by decide)
theorem FB.left {w w' : World} {B b rb n : Nat} {xs xs' ys : List UInt8} {N : Nat} {cs : Array Value} (h : FB w B b rb n xs ys N cs) (hp : FR w' B b n xs') (hm : Mod (FO w B b) w w') : FB w' B b rb n xs' ys N cs :=
  ⟨hp, h.r.mod hm (FO.notRO h.p h.r), h.loc.mod hm (FO.type h.p h.loc (by decide) (by decide)), Nat.le_trans h.hB hm.size⟩
theorem FB.right {w w' : World} {B b rb n : Nat} {xs ys ys' : List UInt8} {N : Nat} {cs : Array Value} (h : FB w B b rb n xs ys N cs) (hr : RM w' B rb n ys') (hm : Mod (RO w B rb) w w') : FB w' B b rb n xs ys' N cs :=
  ⟨h.p.mod hm (fun k hk hf => FO.notRO h.p h.r k hf hk), hr, h.loc.mod hm (RO.type h.r h.loc (by decide) (by decide)), Nat.le_trans h.hB hm.size⟩
/-- Below B all is as it was; and blocks of type 46 are, too. -/
structure BF (B : Nat) (w w' : World) : Prop where
  bel : Below B w w'
  keep : ∀ k cs, Blk w k 46 cs → Blk w' k 46 cs
theorem BF.trans {B : Nat} {a b c : World} (h : BF B a b) (k : BF B b c) : BF B a c := ⟨h.bel.trans k.bel, fun i cs hb => k.keep i cs (h.keep i cs hb)⟩
theorem BF.drew {B : Nat} {a b : World} (h : BF B a b) : BF B a b.drew := ⟨h.bel.drew, h.keep⟩
theorem BF.quiet {B : Nat} {a b : World} (h : Below a.heap.size a b) (hB : B ≤ a.heap.size) : BF B a b := ⟨h.mono hB, fun _ _ hb => hb.mod (Mod.of_below h) (fun h => h)⟩
theorem FB.bl {w w' : World} {B b rb n : Nat} {xs ys : List UInt8} {N : Nat} {cs : Array Value} (h : FB w B b rb n xs ys N cs) (hm : Mod (FO w B b) w w') : BF B w w' := ⟨h.p.bl h.hB hm, fun _ _ hb => hb.mod hm (FO.type h.p hb (by decide) (by decide))⟩
theorem FB.br {w w' : World} {B b rb n : Nat} {xs ys : List UInt8} {N : Nat} {cs : Array Value} (h : FB w B b rb n xs ys N cs) (hm : Mod (RO w B rb) w w') : BF B w w' := ⟨h.r.bl h.hB hm, fun _ _ hb => hb.mod hm (RO.type h.r hb (by decide) (by decide))⟩

def stepF (n : Nat) (xs : List UInt8) (t : FSt) : List UInt8 :=
  if t.what = 0 ∨ t.what = 1 then stX n xs t.a t.at_ t.y
  else if t.what = 2 then cpX n xs t.a t.b
  else if t.what = 3 then ldX n xs t.a ByteArray.empty
  else if t.what = 4 then ldX n xs t.a t.s
  else xs
def FPost (w : World) (B b rb n : Nat) (xs : List UInt8) (t : FSt) (e : Ending) (w' : World) : Prop :=
  e = .returned (.bool true) ∧ FR w' B b n (stepF n xs t) ∧ RM w' B rb n (stepF n xs t) ∧ BF B w w'

set_option maxHeartbeats 3200000 in
set_option maxRecDepth 100000 in
theorem fdoes_set (w : World) (B b rb n : Nat) (xs : List UInt8) (wh a b_ at_ : Int) (y : UInt8) (s : ByteArray) (hp : FR w B b n xs) (hr : RM w B rb n xs) (hB : B ≤ w.heap.size) (hw : wh = 0 ∨ wh = 1) :
    Calls Try.prog 25 #[.pointer (some ⟨b, 0, none⟩), .pointer (some ⟨rb, 0, none⟩), .agg (fbx ⟨wh, a, b_, at_, y, s⟩)] w (FPost w B b rb n xs ⟨wh, a, b_, at_, y, s⟩) := by
  have h0 := FB.enter hp hr hB (fbx ⟨wh, a, b_, at_, y, s⟩)
  have hb0 : BF B w (w.alloc (.cells (fbx ⟨wh, a, b_, at_, y, s⟩) 46)) := BF.quiet (alloc_below _ _) hB
  have hst : stepF n xs ⟨wh, a, b_, at_, y, s⟩ = stX n xs a at_ y := by unfold stepF; rw [if_pos hw]
  unfold FPost
  rw [hst]
  clear hst hp hr
  unfold fbx at h0 hb0 ⊢
  have H0 := Lib.hid h0.drew
  have HB0 := Lib.hid hb0
  clear h0 hb0
  rcases hw with rfl | rfl
  all_goals
    go_enter Try.func25, Try.ntmps25
    go_wp2_with fail
    go_region_held3 (fun w' => w'.cell? ⟨w.heap.size, 1, none⟩ = some (.int .i64 a) ∧ w'.cell? ⟨w.heap.size, 3, none⟩ = some (.int .i64 at_) ∧ w'.cell? ⟨w.heap.size, 4, none⟩ = some (.int .u8 (y.toNat : Int)))
      (first | exact ⟨H0.out.loc.cell 1, H0.out.loc.cell 3, H0.out.loc.cell 4⟩ | exact ⟨g1.loc.cell 1, g1.loc.cell 3, g1.loc.cell 4⟩ | exact ⟨g2.loc.cell 1, g2.loc.cell 3, g2.loc.cell 4⟩)
      (first
        | (go_at_call 30; refine (set_fr _ _ _ n xs a at_ y H0.out.p).mono ?_; rintro e w1 ⟨rfl, h1, m1⟩; have g1 := H0.out.left h1 m1; have b1 := ((HB0.out.drew).trans (H0.out.bl m1)))
        | (go_at_call 41; refine (rset _ _ _ n xs a at_ y g1.r).mono ?_; rintro e w2 ⟨rfl, h2, m2⟩; have g2 := g1.right h2 m2; have b2 := b1.trans (g1.br m2)))
    have hP := g2.p
    have hR := g2.r
    clear g1 g2 h1 h2 m1 m2 b1
    go_wp2
    go_ret
    exact ⟨by simp, hP, hR, b2⟩

set_option maxHeartbeats 3200000 in
set_option maxRecDepth 100000 in
theorem fdoes_copy (w : World) (B b rb n : Nat) (xs : List UInt8) (a b_ at_ : Int) (y : UInt8) (s : ByteArray) (hp : FR w B b n xs) (hr : RM w B rb n xs) (hB : B ≤ w.heap.size) :
    Calls Try.prog 25 #[.pointer (some ⟨b, 0, none⟩), .pointer (some ⟨rb, 0, none⟩), .agg (fbx ⟨2, a, b_, at_, y, s⟩)] w (FPost w B b rb n xs ⟨2, a, b_, at_, y, s⟩) := by
  have h0 := FB.enter hp hr hB (fbx ⟨2, a, b_, at_, y, s⟩)
  have hb0 : BF B w (w.alloc (.cells (fbx ⟨2, a, b_, at_, y, s⟩) 46)) := BF.quiet (alloc_below _ _) hB
  have hst : stepF n xs ⟨2, a, b_, at_, y, s⟩ = cpX n xs a b_ := by simp [stepF]
  unfold FPost
  rw [hst]
  clear hst hp hr
  unfold fbx at h0 hb0 ⊢
  have H0 := Lib.hid h0.drew
  have HB0 := Lib.hid hb0
  clear h0 hb0
  go_enter Try.func25, Try.ntmps25
  go_wp2_with fail
  go_region_held3 (fun w' => w'.cell? ⟨w.heap.size, 1, none⟩ = some (.int .i64 a) ∧ w'.cell? ⟨w.heap.size, 2, none⟩ = some (.int .i64 b_))
    (first | exact ⟨H0.out.loc.cell 1, H0.out.loc.cell 2⟩ | exact ⟨g1.loc.cell 1, g1.loc.cell 2⟩ | exact ⟨g2.loc.cell 1, g2.loc.cell 2⟩)
    (first
      | (go_at_call 22; refine (copy_fr _ _ _ n xs a b_ H0.out.p).mono ?_; rintro e w1 ⟨rfl, h1, m1⟩; have g1 := H0.out.left h1 m1; have b1 := ((HB0.out.drew).trans (H0.out.bl m1)))
      | (go_at_call 42; refine (rcopy _ _ _ n xs a b_ g1.r).mono ?_; rintro e w2 ⟨rfl, h2, m2⟩; have g2 := g1.right h2 m2; have b2 := b1.trans (g1.br m2)))
  have hP := g2.p
  have hR := g2.r
  clear g1 g2 h1 h2 m1 m2 b1
  go_wp2
  go_ret
  exact ⟨by simp, hP, hR, b2⟩
set_option maxHeartbeats 3200000 in
set_option maxRecDepth 100000 in
theorem fdoes_clear (w : World) (B b rb n : Nat) (xs : List UInt8) (a b_ at_ : Int) (y : UInt8) (s : ByteArray) (hp : FR w B b n xs) (hr : RM w B rb n xs) (hB : B ≤ w.heap.size) :
    Calls Try.prog 25 #[.pointer (some ⟨b, 0, none⟩), .pointer (some ⟨rb, 0, none⟩), .agg (fbx ⟨3, a, b_, at_, y, s⟩)] w (FPost w B b rb n xs ⟨3, a, b_, at_, y, s⟩) := by
  have h0 := FB.enter hp hr hB (fbx ⟨3, a, b_, at_, y, s⟩)
  have hb0 : BF B w (w.alloc (.cells (fbx ⟨3, a, b_, at_, y, s⟩) 46)) := BF.quiet (alloc_below _ _) hB
  have hst : stepF n xs ⟨3, a, b_, at_, y, s⟩ = ldX n xs a ByteArray.empty := by simp [stepF]
  unfold FPost
  rw [hst]
  clear hst hp hr
  unfold fbx at h0 hb0 ⊢
  have H0 := Lib.hid h0.drew
  have HB0 := Lib.hid hb0
  clear h0 hb0
  go_enter Try.func25, Try.ntmps25
  go_wp2_with fail
  go_region_held3 (fun w' => w'.cell? ⟨w.heap.size, 1, none⟩ = some (.int .i64 a))
    (first | exact H0.out.loc.cell 1 | exact g1.loc.cell 1 | exact g2.loc.cell 1)
    (first
      | (go_at_call 31; refine (fclear_fr _ _ _ n xs a H0.out.p).mono ?_; rintro e w1 ⟨rfl, h1, m1⟩; have g1 := H0.out.left h1 m1; have b1 := ((HB0.out.drew).trans (H0.out.bl m1)))
      | (go_at_call 43; refine (rload _ _ _ n xs a ByteArray.empty g1.r).mono ?_; rintro e w2 ⟨rfl, h2, m2⟩; have g2 := g1.right h2 m2; have b2 := b1.trans (g1.br m2)))
  have hP := g2.p
  have hR := g2.r
  clear g1 g2 h1 h2 m1 m2 b1
  go_wp2
  go_ret
  exact ⟨by simp, hP, hR, b2⟩
set_option maxHeartbeats 3200000 in
set_option maxRecDepth 100000 in
theorem fdoes_load (w : World) (B b rb n : Nat) (xs : List UInt8) (a b_ at_ : Int) (y : UInt8) (s : ByteArray) (hp : FR w B b n xs) (hr : RM w B rb n xs) (hB : B ≤ w.heap.size) :
    Calls Try.prog 25 #[.pointer (some ⟨b, 0, none⟩), .pointer (some ⟨rb, 0, none⟩), .agg (fbx ⟨4, a, b_, at_, y, s⟩)] w (FPost w B b rb n xs ⟨4, a, b_, at_, y, s⟩) := by
  have h0 := FB.enter hp hr hB (fbx ⟨4, a, b_, at_, y, s⟩)
  have hb0 : BF B w (w.alloc (.cells (fbx ⟨4, a, b_, at_, y, s⟩) 46)) := BF.quiet (alloc_below _ _) hB
  have hst : stepF n xs ⟨4, a, b_, at_, y, s⟩ = ldX n xs a s := by simp [stepF]
  unfold FPost
  rw [hst]
  clear hst hp hr
  unfold fbx at h0 hb0 ⊢
  have H0 := Lib.hid h0.drew
  have HB0 := Lib.hid hb0
  clear h0 hb0
  go_enter Try.func25, Try.ntmps25
  go_wp2_with fail
  go_region_held3 (fun w' => w'.cell? ⟨w.heap.size, 1, none⟩ = some (.int .i64 a) ∧ w'.cell? ⟨w.heap.size, 5, none⟩ = some (.string s))
    (first | exact ⟨H0.out.loc.cell 1, H0.out.loc.cell 5⟩ | exact ⟨g1.loc.cell 1, g1.loc.cell 5⟩ | exact ⟨g2.loc.cell 1, g2.loc.cell 5⟩)
    (first
      | (go_at_call 20; refine (fload_fr _ _ _ n xs a s H0.out.p).mono ?_; rintro e w1 ⟨rfl, h1, m1⟩; have g1 := H0.out.left h1 m1; have b1 := ((HB0.out.drew).trans (H0.out.bl m1)))
      | (go_at_call 43; refine (rload _ _ _ n xs a s g1.r).mono ?_; rintro e w2 ⟨rfl, h2, m2⟩; have g2 := g1.right h2 m2; have b2 := b1.trans (g1.br m2)))
  have hP := g2.p
  have hR := g2.r
  clear g1 g2 h1 h2 m1 m2 b1
  go_wp2
  go_ret
  exact ⟨by simp, hP, hR, b2⟩
set_option maxHeartbeats 3200000 in
set_option maxRecDepth 100000 in
theorem fdoes_look (w : World) (B b rb n : Nat) (xs : List UInt8) (wh a b_ at_ : Int) (y : UInt8) (s : ByteArray) (hp : FR w B b n xs) (hr : RM w B rb n xs) (hB : B ≤ w.heap.size) (hw : wh < 0 ∨ 4 < wh) :
    Calls Try.prog 25 #[.pointer (some ⟨b, 0, none⟩), .pointer (some ⟨rb, 0, none⟩), .agg (fbx ⟨wh, a, b_, at_, y, s⟩)] w (FPost w B b rb n xs ⟨wh, a, b_, at_, y, s⟩) := by
  have h0 := FB.enter hp hr hB (fbx ⟨wh, a, b_, at_, y, s⟩)
  have hb0 : BF B w (w.alloc (.cells (fbx ⟨wh, a, b_, at_, y, s⟩) 46)) := BF.quiet (alloc_below _ _) hB
  have hst : stepF n xs ⟨wh, a, b_, at_, y, s⟩ = xs := by
    unfold stepF
    simp only
    rw [if_neg (by omega), if_neg (by omega), if_neg (by omega), if_neg (by omega)]
  unfold FPost
  rw [hst]
  clear hst hp hr
  unfold fbx at h0 hb0 ⊢
  have d0 : (wh == 0) = false := by simp; omega
  have d1 : (wh == 1) = false := by simp; omega
  have d2 : (wh == 2) = false := by simp; omega
  have d3 : (wh == 3) = false := by simp; omega
  have d4 : (wh == 4) = false := by simp; omega
  have hP := h0.p
  have hR := h0.r
  clear h0 hw
  go_enter Try.func25, Try.ntmps25
  go_wp2
  go_ret
  exact ⟨rfl, hP, hR, hb0⟩
theorem fdoes_any (w : World) (B b rb n : Nat) (xs : List UInt8) (t : FSt) (hp : FR w B b n xs) (hr : RM w B rb n xs) (hB : B ≤ w.heap.size) :
    Calls Try.prog 25 #[.pointer (some ⟨b, 0, none⟩), .pointer (some ⟨rb, 0, none⟩), .agg (fbx t)] w (FPost w B b rb n xs t) := by
  obtain ⟨wh, a, b_, at_, y, s⟩ := t
  by_cases h1 : wh = 0 ∨ wh = 1
  · exact fdoes_set w B b rb n xs wh a b_ at_ y s hp hr hB h1
  by_cases h2 : wh = 2
  · subst h2; exact fdoes_copy w B b rb n xs a b_ at_ y s hp hr hB
  by_cases h3 : wh = 3
  · subst h3; exact fdoes_clear w B b rb n xs a b_ at_ y s hp hr hB
  by_cases h4 : wh = 4
  · subst h4; exact fdoes_load w B b rb n xs a b_ at_ y s hp hr hB
  · exact fdoes_look w B b rb n xs wh a b_ at_ y s hp hr hB (by omega)

def fsc (l : Nat → FSt) (i j : Nat) : Value := (fbx (l i)).getD j (.bool false)
set_option maxHeartbeats 1600000 in
set_option maxRecDepth 100000 in
theorem flong_any (l : Nat → FSt) (v : Value) (n : Nat) (w : World) (hin : Inp w w.heap.size v n 6 (fsc l)) :
    Calls Try.prog 23 #[v] w fun e w' => (e = .returned (.bool true) ∨ e = .returned (.bool false)) ∧ Below w.heap.size w w' := by
  obtain ⟨hn, a, cap, rfl, hc⟩ := hin
  unfold maxLen at hn
  go_enter Try.func23, Try.ntmps23
  go_wp2
  go_loopw [7] (fun i wr => ∃ k : Nat, k ≤ n ∧ i = .int .i64 k ∧ k ≤ 61 ∧ Below w.heap.size w wr) (fun i _ => n - (intOf i).toNat)
  case atStart => exact ⟨0, by omega, rfl, by omega, Below.refl _ _⟩
  case round =>
    obtain ⟨k, hk, rfl, hk2, hbel⟩ := hrel
    by_cases hlt : k < n
    · obtain ⟨b, off, rfl, hb, hcl⟩ := hc (by omega)
      have c0 : wr.cell? _ = some (.int .i64 (l k).what) := (hbel.cell (p := ⟨b, _, none⟩) hb).trans (hcl k hlt 0 (by omega))
      have c1 : wr.cell? _ = some (.int .i64 (l k).a) := (hbel.cell (p := ⟨b, _, none⟩) hb).trans (hcl k hlt 1 (by omega))
      have c2 : wr.cell? _ = some (.int .i64 (l k).b) := (hbel.cell (p := ⟨b, _, none⟩) hb).trans (hcl k hlt 2 (by omega))
      have c3 : wr.cell? _ = some (.int .i64 (l k).at_) := (hbel.cell (p := ⟨b, _, none⟩) hb).trans (hcl k hlt 3 (by omega))
      have c4 : wr.cell? _ = some (.int .u8 ((l k).y.toNat : Int)) := (hbel.cell (p := ⟨b, _, none⟩) hb).trans (hcl k hlt 4 (by omega))
      have c5 : wr.cell? _ = some (.string (l k).s) := (hbel.cell (p := ⟨b, _, none⟩) hb).trans (hcl k hlt 5 (by omega))
      clear hcl hc
      simp only [Nat.add_zero] at c0
      go_wp2
      · go_ret
        exact ⟨.inl rfl, hbel.alloc hbel.size _⟩
      · have hg : (k : Int) ≤ 60 ∧ ((l k).s.size : Int) ≤ 100 := by assumption
        go_roundw
        case rel => exact ⟨k + 1, by omega, by go_num, by omega, hbel.alloc hbel.size _⟩
        case measure => simp [intOf]; omega
      · go_ret
        exact ⟨.inl rfl, hbel.alloc hbel.size _⟩
    · obtain rfl : k = n := by omega
      clear hc
      go_wp2
      go_ret
      exact ⟨.inr rfl, hbel⟩
end Go.Proofs.Ytjibphpkebcoeaa
