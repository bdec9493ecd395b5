/- Walks over the reference's pipes, 2. -/
import Derived.Test.YtjibphpkebcoeaaC1
set_option linter.all false
namespace Go.Proofs.Ytjibphpkebcoeaa
open Go.RowKit

theorem Try.info75 : (Try.prog.info? 75).map (fun i => (i.zero, i.size, i.bytes)) = some (some (.agg #[.int .i64 0, .string ByteArray.empty]), 2, 24) := by kernel_rfl

/-- The reference's table at block rb, its list l. -/
structure RR (w : World) (B rb : Nat) (l : List Ent) : Prop where
  low : B ≤ rb
  len : l.length ≤ 1000
  sz : ∀ y ∈ l, y.2.size ≤ 16
  tab : ∃ v, Blk w rb 63 #[v] ∧ w.ownsRow B 75 2 v l.length (l.flatMap ec)
def RF (w : World) (B rb : Nat) (k : Nat) : Prop := k = rb ∨ (B ≤ k ∧ ∃ cur, Blk w k 75 cur)

theorem RR.lt {w : World} {B rb : Nat} {l : List Ent} (h : RR w B rb l) : rb < w.heap.size := by
  obtain ⟨v, hb, _⟩ := h.tab
  exact hb.lt
theorem RR.mod {F : Nat → Prop} {w w' : World} {B rb : Nat} {l : List Ent} (h : RR w B rb l) (hm : Mod F w w') (hF : ∀ k, RF w B rb k → ¬ F k) : RR w' B rb l := by
  obtain ⟨h1, h2, h3, v, hb, ho⟩ := h
  refine ⟨h1, h2, h3, v, hb.mod hm (hF rb (.inl rfl)), ownsRow_mod ho hm fun g cur hg hbk => hF g (.inr ⟨(ho.lt g hg).1, cur, hbk⟩)⟩
theorem RF.low {w : World} {B rb : Nat} {l : List Ent} (h : RR w B rb l) : ∀ k, RF w B rb k → B ≤ k := by
  rintro k (rfl | ⟨hk, _⟩)
  · exact h.low
  · exact hk
theorem RF.lt {w : World} {B rb : Nat} {l : List Ent} (h : RR w B rb l) : ∀ k, RF w B rb k → k < w.heap.size := by
  rintro k (rfl | ⟨_, cur, hb⟩)
  · exact h.lt
  · exact hb.lt
theorem RF.type {w : World} {B rb : Nat} {l : List Ent} (h : RR w B rb l) {k : Nat} {t : TypeId} {cs : Array Value} (hk : Blk w k t cs) (h1 : t ≠ 63) (h2 : t ≠ 75) : ¬ RF w B rb k := by
  rintro (rfl | ⟨_, cur, hb⟩)
  · obtain ⟨v, hb, _⟩ := h.tab
    exact (hb.ne_ hk h1.symm) rfl
  · exact (hb.ne_ hk h2.symm) rfl

theorem at_rr (l : List Ent) (B rb : Nat) (id : Int) (w : World) (h : RR w B rb l) :
    Calls Try.prog 52 #[.pointer (some ⟨rb, 0, none⟩), .int .i64 id] w fun e w' => e = .returned (.int .i64 (fidx l id)) ∧ Below w.heap.size w w' := by
  obtain ⟨h1, h2, _, v, hb, ho⟩ := h
  exact at_ref l rb v id w hb (own_inp ec_len ho rfl (by unfold maxLen; omega)) h2

theorem RR.store {w : World} {B B' rb : Nat} {l : List Ent} {v0 v : Value} (h : Blk w rb 63 #[v0]) (hl : B ≤ rb) (hn : l.length ≤ 1000) (hz : ∀ y ∈ l, y.2.size ≤ 16) (hB : B ≤ B') (ho : w.ownsRow B' 75 2 v l.length (l.flatMap ec)) :
    RR (w.setCell ⟨rb, 0, none⟩ v) B rb l :=
  ⟨hl, hn, hz, v, h.set_ 0 v, own_base (own_set ho h (by decide) 0 v) hB⟩

def rwE (l : List Ent) (id : Int) : Int := if id < 0 ∨ 2 < id then 1 else if fidx l id < 0 then 6 else 0

set_option maxHeartbeats 800000 in
set_option maxRecDepth 100000 in
theorem wrong_rr (l : List Ent) (B rb : Nat) (id : Int) (w : World) (h : RR w B rb l) :
    Calls Try.prog 53 #[.pointer (some ⟨rb, 0, none⟩), .int .i64 id] w fun e w' => e = .returned (.int .i64 (rwE l id)) ∧ Below w.heap.size w w' := by
  by_cases h1 : id < 0
  · have e1 : rwE l id = 1 := by simp [rwE, h1]
    have E1 := Lib.hid e1
    have hd : decide (id < 0) = true := by simpa using h1
    clear e1 h1
    go_enter Try.func53, Try.ntmps53
    go_wp2
    go_ret
    rw [E1.out]
    exact ⟨rfl, Below.refl _ _⟩
  by_cases h2 : 2 < id
  · have e1 : rwE l id = 1 := by simp [rwE, h2]
    have E1 := Lib.hid e1
    have hd : decide (id < 0) = false := by simpa using h1
    have hd2 : decide (2 < id) = true := by simpa using h2
    clear e1 h1 h2
    go_enter Try.func53, Try.ntmps53
    go_wp2
    go_ret
    rw [E1.out]
    exact ⟨rfl, Below.refl _ _⟩
  have e0 : ¬ (id < 0 ∨ 2 < id) := by omega
  have hd : decide (id < 0) = false := by simpa using h1
  have hd2 : decide (2 < id) = false := by simpa using h2
  by_cases h3 : fidx l id < 0
  · have e1 : rwE l id = 6 := by simp [rwE, e0, h3]
    have E1 := Lib.hid e1
    have hd3 : decide (fidx l id < 0) = true := by simpa using h3
    clear e1 h1 h2 e0 h3
    go_enter Try.func53, Try.ntmps53
    go_wp2_with (go_at_call 52; refine (at_rr l B rb id _ h).mono ?_; rintro e w' ⟨rfl, hb⟩)
    go_ret
    rw [E1.out]
    exact ⟨rfl, hb⟩
  · have e1 : rwE l id = 0 := by simp [rwE, e0, h3]
    have E1 := Lib.hid e1
    have hd3 : decide (fidx l id < 0) = false := by simpa using h3
    clear e1 h1 h2 e0 h3
    go_enter Try.func53, Try.ntmps53
    go_wp2_with (go_at_call 52; refine (at_rr l B rb id _ h).mono ?_; rintro e w' ⟨rfl, hb⟩)
    go_ret
    rw [E1.out]
    exact ⟨rfl, hb⟩

def notId (id : Int) (l : List Ent) : List Ent := l.filter fun x => !decide (x.1 = id)
theorem notId_len (id : Int) (l : List Ent) : (notId id l).length ≤ l.length := List.length_filter_le _ _
theorem notId_sz {id : Int} {l : List Ent} (h : ∀ y ∈ l, y.2.size ≤ 16) : ∀ y ∈ notId id l, y.2.size ≤ 16 := fun y hy => h y (List.mem_filter.1 hy).1
theorem notId_take (id : Int) (l : List Ent) (k : Nat) : (notId id (l.take k)).length ≤ k := Nat.le_trans (notId_len _ _) (List.length_take_le _ _)
theorem notId_yes {id : Int} {l : List Ent} {k : Nat} {x : Ent} (h : l[k]? = some x) (he : x.1 = id) : notId id (l.take (k + 1)) = notId id (l.take k) := by
  unfold notId; rw [take_snoc_list h, List.filter_append]; simp [he]
theorem notId_no {id : Int} {l : List Ent} {k : Nat} {x : Ent} (h : l[k]? = some x) (he : x.1 ≠ id) : notId id (l.take (k + 1)) = notId id (l.take k) ++ [x] := by
  unfold notId; rw [take_snoc_list h, List.filter_append]; simp [he]
def clL (l : List Ent) (id : Int) : List Ent := if rwE l id ≠ 0 then l else notId id l

set_option maxHeartbeats 1600000 in
set_option maxRecDepth 100000 in
theorem close_rr (l : List Ent) (B rb : Nat) (id : Int) (w : World) (h : RR w B rb l) (hB : B ≤ w.heap.size) :
    Calls Try.prog 47 #[.pointer (some ⟨rb, 0, none⟩), .int .i64 id] w fun e w' => e = .returned (.int .i64 (rwE l id)) ∧ RR w' B rb (clL l id) ∧ Mod (RF w B rb) w w' := by
  by_cases he : rwE l id ≠ 0
  · have e1 : clL l id = l := by simp [clL, he]
    have hd : (rwE l id != 0) = true := by simpa using he
    rw [e1]
    clear e1 he
    go_enter Try.func47, Try.ntmps47
    go_wp2_with (go_at_call 53; refine (wrong_rr l B rb id _ h).mono ?_; rintro e w' ⟨rfl, hb⟩)
    go_ret
    exact ⟨rfl, h.mod (Mod.of_below hb) (fun _ _ h => h), (Mod.of_below hb).mono (fun _ _ h => h.elim)⟩
  · have he' : rwE l id = 0 := by simpa using he
    have e1 : clL l id = notId id l := by simp [clL, he']
    rw [e1, he']
    have HC := Lib.hid he'
    clear e1 he he'
    obtain ⟨i0, hi, hz0, hz1, hz2⟩ := info_parts Try.info75
    go_enter Try.func47, Try.ntmps47
    go_wp2_with fail
    refine (wrong_rr l B rb id _ h).mono ?_
    rintro e w1 ⟨rfl, hb⟩
    simp only [HC.out]
    have h1 := h.mod (Mod.of_below hb) (fun _ _ h => h)
    obtain ⟨hl1, hl2, hl3, v, hbk, ho⟩ := h1
    have HZ := Lib.hid hl3
    clear hl3
    have hin := own_inp ec_len ho rfl (by unfold maxLen; omega)
    obtain ⟨_, a, cap, rfl, hc⟩ := hin
    have k0 := hbk.cell 0
    simp at k0
    have hblk := Lib.hid hbk
    clear hbk
    go_wp2_with fail
    go_loopw [6, 20] (fun v i wr => ∃ k : Nat, k ≤ l.length ∧ i = .int .i64 k ∧ wr.ownsRow w1.heap.size 75 2 v (notId id (l.take k)).length ((notId id (l.take k)).flatMap ec) ∧ Below w1.heap.size w1 wr) (fun _ i _ => l.length - (intOf i).toNat)
    case atStart => exact ⟨0, by omega, rfl, World.ownsRow_nil _ _ _ _, Below.refl _ _⟩
    case round =>
      obtain ⟨k, hk, rfl, hown, hbel⟩ := hrel
      have hfl := notId_take id l k
      have hsz := hbel.size
      by_cases hlt : k < l.length
      · obtain ⟨b, off, rfl, hb, hcl⟩ := hc (by omega)
        have hx : l[k]? = some (l[k]'hlt) := List.getElem?_eq_getElem hlt
        generalize l[k]'hlt = x at hx
        have c0 := (hbel.cell (p := ⟨b, _, none⟩) hb).trans (hcl k hlt 0 (by omega))
        have c1 := (hbel.cell (p := ⟨b, _, none⟩) hb).trans (hcl k hlt 1 (by omega))
        rw [atl_get hx (v := .int .i64 x.1) rfl] at c0
        rw [atl_get hx (v := .string x.2) rfl] at c1
        simp only [Nat.add_zero] at c0
        clear hcl hc
        by_cases he : x.1 = id
        · have hn := notId_yes hx he
          rw [← hn] at hown
          have he' : (x.1 != id) = false := by simp [he]
          clear hx he hn
          go_wp2
          go_roundw
          case rel => exact ⟨k + 1, by omega, by go_num, hown.alloc _, hbel.alloc hbel.size _⟩
          case measure => simp [intOf]; omega
        · have hn := notId_no hx he
          have he' : (x.1 != id) = true := by simp [he]
          have HN := Lib.hid hn
          clear hx he hn
          go_wp2_with (at_builtin; refine wpList_append_own _ rfl _ _ 61 rfl w1.heap.size 75 i0 _ 2 24 Try.underlying61 hi hz0 hz1 hz2 rfl (by decide) _ _ _ rfl ((hown.alloc _).alloc _) ⟨wr.heap.size + 1, 0, none⟩ 1 1 (ec x) rfl rfl ?c1 ?c2 ?c3 ?c4 ?c5 ?_)
          case c1 => exact news_new2 _ _ _ _
          case c2 => intro u hu; simp [ec] at hu; rcases hu with rfl | rfl <;> rfl
          case c3 => unfold maxLen; omega
          case c4 => omega
          case c5 => simp; omega
          intro v' w2 hown1 hgrow _
          have hbel1 : Below w1.heap.size w1 w2 := ((hbel.alloc hsz _).alloc (by simp; omega) _).grown hgrow (by simp; omega) (fun g hg => (hown.lt g hg).1)
          clear hown hgrow
          go_wp2
          go_roundw
          case rel =>
            refine ⟨k + 1, by omega, by go_num, ?_, hbel1⟩
            rw [HN.out, List.flatMap_append, List.length_append]
            simpa using hown1
          case measure => simp [intOf]; omega
      · obtain rfl : k = l.length := by omega
        rw [List.take_length] at hown
        obtain ⟨a', c', rfl⟩ := len_of_own hown
        clear hc
        have hbw : Blk wr rb 63 _ := hblk.out.mod (Mod.of_below hbel) (fun h => h)
        have kw := hbw.cell 0
        have fw := hbw.frozen 0
        simp at kw
        have hB1 : B ≤ w1.heap.size := by have := hb.size; omega
        have hR := RR.store hbw hl1 (by have := notId_len id l; omega) (notId_sz HZ.out) hB1 hown
        have hM : ∀ u, Mod (RF w B rb) w (wr.setCell ⟨rb, 0, none⟩ u) := fun u =>
          (((Mod.of_below hb).mono (G := RF w B rb) (fun _ _ h => h.elim)).trans (Mod.of_below hbel) (fun _ _ h => h.elim)).setCell (.inl (.inl rfl)) u
        clear hbw hown hbel hblk
        go_wp2
        go_ret
        exact ⟨rfl, hR, hM _⟩
end Go.Proofs.Ytjibphpkebcoeaa
