/- Walks over the reference's pipes, 4: Write, Read, Waits. -/
import Derived.Test.YtjibphpkebcoeaaC3
import Derived.BigRegion
import Derived.RegionTactic
import Derived.ChangeAlike
import Derived.Deep.RegionHeld3
set_option linter.all false
namespace Go.Proofs.Ytjibphpkebcoeaa
open Go.RowKit

theorem rwE_zero {l : List Ent} {id : Int} (h : rwE l id = 0) : ∃ (k : Nat) (d : ByteArray), fidx l id = k ∧ l[k]? = some (id, d) ∧ 0 ≤ id ∧ id ≤ 2 := by
  unfold rwE at h
  split at h
  · omega
  · split at h
    · omega
    · obtain ⟨i, y, h1, h2⟩ := fidx_some (l := l) (id := id) (by omega)
      have hg := fidx_ge id l
      obtain ⟨k, hk⟩ := Int.eq_ofNat_of_zero_le (show 0 ≤ fidx l id by omega)
      have hkl : k < l.length := by omega
      have key : ∀ (l : List Ent) (k : Nat), fidx l id = k → ∀ x, l[k]? = some x → x.1 = id := by
        intro l
        induction l with
        | nil => intro k h; simp [fidx] at h
        | cons a l ih =>
          intro k h x hx
          simp only [fidx] at h
          split at h
          · obtain rfl : k = 0 := by omega
            simp at hx; subst hx; assumption
          · split at h
            · omega
            · obtain ⟨k', rfl⟩ : ∃ k', k = k' + 1 := ⟨k - 1, by have := (fidx_ge id l).1; omega⟩
              exact ih k' (by omega) x (by simpa using hx)
      have hx := List.getElem?_eq_getElem hkl
      have := key l k hk _ hx
      refine ⟨k, l[k].2, hk, ?_, by omega, by omega⟩
      rw [hx, ← this]
def wdE (l : List Ent) (id : Int) (x : ByteArray) : Int := if rwE l id ≠ 0 then rwE l id else if 16 < (l.getD (fidx l id).toNat (0, ByteArray.empty)).2.size + x.size then 5 else 0
def wdL (l : List Ent) (id : Int) (x : ByteArray) : List Ent :=
  if rwE l id ≠ 0 then l else if 16 < (l.getD (fidx l id).toNat (0, ByteArray.empty)).2.size + x.size then l else l.set (fidx l id).toNat (id, (l.getD (fidx l id).toNat (0, ByteArray.empty)).2 ++ x)

theorem flat_set {l : List Ent} {k : Nat} {id : Int} {d d' : ByteArray} : l[k]? = some (id, d) → (l.flatMap ec).set (k * 2 + 1) (.string d') = (l.set k (id, d')).flatMap ec := by
  induction l generalizing k with
  | nil => intro h; simp at h
  | cons a l ih =>
    intro h
    cases k with
    | zero => simp at h; subst h; simp [ec]
    | succ k =>
      simp only [List.getElem?_cons_succ] at h
      have e : (k + 1) * 2 + 1 = (k * 2 + 1) + 1 + 1 := by omega
      rw [List.set_cons_succ, List.flatMap_cons, List.flatMap_cons, ← ih h, e]
      simp [ec]

theorem RR.put {w : World} {B rb g cap k : Nat} {l : List Ent} {id : Int} {d d' : ByteArray} (h : RR w B rb l) (hb : Blk w rb 63 #[.slice (some ⟨g, 0, none⟩) l.length cap])
    (ho : w.ownsRow B 75 2 (.slice (some ⟨g, 0, none⟩) l.length cap) l.length (l.flatMap ec)) (hl : l[k]? = some (id, d)) (hd : d'.size ≤ 16) :
    RR (w.setCell ⟨g, k * 2 + 1, none⟩ (.string d')) B rb (l.set k (id, d')) := by
  have hne : rb ≠ g := by
    rcases ho.2 with ⟨h, _⟩ | ⟨g', cap', cur, h, _, hh, _⟩
    · cases h
    · cases h
      have hbk : Blk w g 75 cur := hh
      exact hb.ne_ hbk (by decide)
  refine ⟨h.low, by rw [List.length_set]; exact h.len, ?_, .slice (some ⟨g, 0, none⟩) l.length cap, hb.far (p := ⟨g, _, none⟩) hne _, ?_⟩
  · intro y hy
    rcases List.mem_or_eq_of_mem_set hy with hy | rfl
    · exact h.sz y hy
    · exact hd
  · rw [List.length_set, ← flat_set hl]
    exact (ho.stored (k * 2 + 1) _).1
theorem RF.row {w w2 : World} {B rb g cap n : Nat} {xs : List Value} (hb : Below w.heap.size w w2) (ho : w2.ownsRow B 75 2 (.slice (some ⟨g, 0, none⟩) n cap) n xs) : RF w B rb g ∨ w.heap.size ≤ g := by
  rcases ho.2 with ⟨h, _⟩ | ⟨g', cap', cur, h, hg, hh, _⟩
  · cases h
  · cases h
    rcases Nat.lt_or_ge g w.heap.size with h1 | h1
    · exact .inl (.inr ⟨hg, cur, by unfold Blk; rw [← hb.block g h1]; exact hh⟩)
    · exact .inr h1
set_option maxHeartbeats 3200000 in
set_option maxRecDepth 100000 in
theorem write_rr (l : List Ent) (B rb : Nat) (id : Int) (x : ByteArray) (w : World) (h : RR w B rb l) (hB : B ≤ w.heap.size) (hx : x.size ≤ 1000) :
    Calls Try.prog 48 #[.pointer (some ⟨rb, 0, none⟩), .int .i64 id, .string x] w fun e w' => e = .returned (.int .i64 (wdE l id x)) ∧ RR w' B rb (wdL l id x) ∧ Mod (RF w B rb) w w' := by
  by_cases he : rwE l id ≠ 0
  · have e1 : wdL l id x = l := by simp [wdL, he]
    have e2 : wdE l id x = rwE l id := by simp [wdE, he]
    have hd : (rwE l id != 0) = true := by simpa using he
    rw [e1, e2]
    clear e1 he
    go_enter Try.func48, Try.ntmps48
    go_wp2_with (go_at_call 53; refine (wrong_rr l B rb id _ h).mono ?_; rintro e w' ⟨rfl, hb⟩)
    go_ret
    exact ⟨rfl, h.mod (Mod.of_below hb) (fun _ _ h => h), (Mod.of_below hb).mono (fun _ _ h => h.elim)⟩
  have he' : rwE l id = 0 := by simpa using he
  obtain ⟨k, d, hk, hl, _⟩ := rwE_zero he'
  have hg : l.getD (fidx l id).toNat (0, ByteArray.empty) = (id, d) := by simp [hk, hl]
  have hd16 := h.sz _ (List.mem_of_getElem? hl)
  have hkl : k < l.length := (List.getElem?_eq_some_iff.1 hl).1
  have HL := Lib.hid hl
  by_cases hz : 16 < d.size + x.size
  · have e1 : wdL l id x = l := by simp only [wdL, he', hg]; simp [hz]
    have e2 : wdE l id x = 5 := by simp only [wdE, he', hg]; simp [hz]
    rw [e1, e2]
    have HE := Lib.hid he'
    have HK := Lib.hid hk
    clear e1 e2 he he' hk hg hl
    go_enter Try.func48, Try.ntmps48
    go_wp2_with fail
    refine (wrong_rr l B rb id _ h).mono ?_
    rintro e w1 ⟨rfl, hb⟩
    simp only [HE.out]
    have h1 := h.mod (Mod.of_below hb) (fun _ _ h => h)
    go_wp2_with fail
    refine (at_rr l B rb id _ h1).mono ?_
    rintro e w2 ⟨rfl, hb2⟩
    simp only [HK.out]
    have hb3 := hb.trans (hb2.mono hb.size)
    have h2 := h.mod (Mod.of_below hb3) (fun _ _ h => h)
    have h2' := h2
    obtain ⟨hl1, hl2, _, v, hbk, ho⟩ := h2
    have hin := own_inp ec_len ho rfl (by unfold maxLen; omega)
    obtain ⟨_, a, cap, rfl, hc⟩ := hin
    obtain ⟨g, off, rfl, hgl, hcl⟩ := hc (by omega)
    have c1 := hcl k hkl 1 (by omega)
    rw [atl_get HL.out (v := .string d) rfl] at c1
    have k0 := hbk.cell 0
    simp at k0
    clear hcl hc h1 hb hb2
    go_wp2
    go_ret
    exact ⟨rfl, h2', (Mod.of_below hb3).mono (fun _ _ h => h.elim)⟩
  · have e1 : wdL l id x = l.set k (id, d ++ x) := by simp only [wdL, he', hg]; simp [hz, hk]
    have e2 : wdE l id x = 0 := by simp only [wdE, he', hg]; simp [hz]
    rw [e1, e2]
    have HE := Lib.hid he'
    have HK := Lib.hid hk
    clear e1 e2 he he' hk hg hl
    go_enter Try.func48, Try.ntmps48
    go_wp2_with fail
    refine (wrong_rr l B rb id _ h).mono ?_
    rintro e w1 ⟨rfl, hb⟩
    simp only [HE.out]
    have h1 := h.mod (Mod.of_below hb) (fun _ _ h => h)
    go_wp2_with fail
    refine (at_rr l B rb id _ h1).mono ?_
    rintro e w2 ⟨rfl, hb2⟩
    simp only [HK.out]
    have hb3 := hb.trans (hb2.mono hb.size)
    have h2 := h.mod (Mod.of_below hb3) (fun _ _ h => h)
    have h2' := h2
    obtain ⟨hl1, hl2, _, v, hbk, ho⟩ := h2
    have hin := own_inp ec_len ho rfl (by unfold maxLen; omega)
    obtain ⟨_, a, cap, rfl, hc⟩ := hin
    obtain ⟨g, off, rfl, hgl, hcl⟩ := hc (by omega)
    obtain rfl : off = 0 := by
      rcases ho.2 with ⟨h, _⟩ | ⟨g', cap', cur, h, _⟩
      · cases h
      · cases h; rfl
    have c1 := hcl k hkl 1 (by omega)
    rw [atl_get HL.out (v := .string d) rfl] at c1
    have f1 := ho.frozenAt (k * 2 + 1)
    have k0 := hbk.cell 0
    simp at k0
    simp only [Nat.zero_add] at c1
    clear hcl hc h1 hb hb2
    go_wp2
    go_region
    go_wp2
    go_ret
    exact ⟨rfl, (RR.put h2' hbk ho HL.out (by rw [ByteArray.size_append]; omega)).mod ((Mod.refl Nothing _).drew) (fun _ _ h => h),
      ((((Mod.of_below hb3).mono (G := RF w B rb) (fun _ _ h => h.elim)).setCell (RF.row hb3 ho) _).drew)⟩

def rrE (l : List Ent) (id n : Int) : Int := if n < 0 then 1 else rwE l id
def rrV (l : List Ent) (id n : Int) : ByteArray :=
  if n < 0 then ByteArray.empty else if rwE l id ≠ 0 then ByteArray.empty else
    if n < ((l.getD (fidx l id).toNat (0, ByteArray.empty)).2.size : Int) then (l.getD (fidx l id).toNat (0, ByteArray.empty)).2.extract 0 n.toNat else (l.getD (fidx l id).toNat (0, ByteArray.empty)).2
def rrL (l : List Ent) (id n : Int) : List Ent :=
  if n < 0 then l else if rwE l id ≠ 0 then l else
    if n < ((l.getD (fidx l id).toNat (0, ByteArray.empty)).2.size : Int) then l.set (fidx l id).toNat (id, (l.getD (fidx l id).toNat (0, ByteArray.empty)).2.extract n.toNat (l.getD (fidx l id).toNat (0, ByteArray.empty)).2.size)
    else l.set (fidx l id).toNat (id, ByteArray.empty)

set_option maxHeartbeats 3200000 in
set_option maxRecDepth 100000 in
theorem read_rr (l : List Ent) (B rb : Nat) (id n : Int) (w : World) (h : RR w B rb l) (hB : B ≤ w.heap.size) :
    Calls Try.prog 49 #[.pointer (some ⟨rb, 0, none⟩), .int .i64 id, .int .i64 n] w fun e w' => e = .returned (.tuple #[.string (rrV l id n), .int .i64 (rrE l id n)]) ∧ RR w' B rb (rrL l id n) ∧ Mod (RF w B rb) w w' := by
  by_cases hn : n < 0
  · simp only [rrE, rrV, rrL, if_pos hn]
    go_enter Try.func49, Try.ntmps49
    go_wp2
    go_ret2
    exact ⟨rfl, h, Mod.refl _ _⟩
  have hnn : 0 ≤ n := by omega
  by_cases he : rwE l id ≠ 0
  · simp only [rrE, rrV, rrL, if_neg hn, if_pos he]
    have hd : (rwE l id != 0) = true := by simpa using he
    clear he hn
    go_enter Try.func49, Try.ntmps49
    go_wp2_with (go_at_call 53; refine (wrong_rr l B rb id _ h).mono ?_; rintro e w' ⟨rfl, hb⟩)
    go_ret2
    exact ⟨rfl, h.mod (Mod.of_below hb) (fun _ _ h => h), (Mod.of_below hb).mono (fun _ _ h => h.elim)⟩
  have he' : rwE l id = 0 := by simpa using he
  obtain ⟨k, d, hk, hl, _⟩ := rwE_zero he'
  have hg : l.getD (fidx l id).toNat (0, ByteArray.empty) = (id, d) := by simp [hk, hl]
  have hkn : (fidx l id).toNat = k := by rw [hk]; simp
  have hd16 := h.sz _ (List.mem_of_getElem? hl)
  have hkl : k < l.length := (List.getElem?_eq_some_iff.1 hl).1
  have HL := Lib.hid hl
  have HE := Lib.hid he'
  have HK := Lib.hid hk
  by_cases hz : n < (d.size : Int)
  · have e1 : rrL l id n = l.set k (id, d.extract n.toNat d.size) := by simp only [rrL, if_neg hn, if_neg he, hg, if_pos hz]; rw [hkn]
    have e2 : rrE l id n = 0 := by simp only [rrE, if_neg hn, he']
    have e3 : rrV l id n = d.extract 0 n.toNat := by simp only [rrV, if_neg hn, if_neg he, hg, if_pos hz]
    rw [e1, e2, e3]
    clear e1 e2 e3 he he' hk hg hl hkn hn
    obtain ⟨m, rfl⟩ := Int.eq_ofNat_of_zero_le hnn
    rw [Int.toNat_natCast]
    go_enter Try.func49, Try.ntmps49
    go_wp2_with fail
    refine (wrong_rr l B rb id _ h).mono ?_
    rintro e w1 ⟨rfl, hb⟩
    simp only [HE.out]
    have h1 := h.mod (Mod.of_below hb) (fun _ _ h => h)
    go_wp2_with fail
    refine (at_rr l B rb id _ h1).mono ?_
    rintro e w2 ⟨rfl, hb2⟩
    simp only [HK.out]
    have hb3 := hb.trans (hb2.mono hb.size)
    have h2 := h.mod (Mod.of_below hb3) (fun _ _ h => h)
    have h2' := h2
    obtain ⟨hl1, hl2, _, v, hbk, ho⟩ := h2
    have hin := own_inp ec_len ho rfl (by unfold maxLen; omega)
    obtain ⟨_, a, cap, rfl, hc⟩ := hin
    obtain ⟨g, off, rfl, hgl, hcl⟩ := hc (by omega)
    obtain rfl : off = 0 := by
      rcases ho.2 with ⟨h, _⟩ | ⟨g', cap', cur, h, _⟩
      · cases h
      · cases h; rfl
    have c1 := hcl k hkl 1 (by omega)
    rw [atl_get HL.out (v := .string d) rfl] at c1
    have f1 := ho.frozenAt (k * 2 + 1)
    have k0 := hbk.cell 0
    simp at k0
    simp only [Nat.zero_add] at c1
    clear hcl hc h1 hb hb2
    go_wp2
    go_region
    go_wp2
    go_ret2
    exact ⟨rfl, (RR.put h2' hbk ho HL.out (by rw [ByteArray.size_extract]; omega)).mod ((Mod.refl Nothing _).drew) (fun _ _ h => h),
      ((((Mod.of_below hb3).mono (G := RF w B rb) (fun _ _ h => h.elim)).setCell (RF.row hb3 ho) _).drew)⟩
  · have e1 : rrL l id n = l.set k (id, ByteArray.empty) := by simp only [rrL, if_neg hn, if_neg he, hg, if_neg hz]; rw [hkn]
    have e2 : rrE l id n = 0 := by simp only [rrE, if_neg hn, he']
    have e3 : rrV l id n = d := by simp only [rrV, if_neg hn, if_neg he, hg, if_neg hz]
    rw [e1, e2, e3]
    clear e1 e2 e3 he he' hk hg hl hkn hn
    go_enter Try.func49, Try.ntmps49
    go_wp2_with fail
    refine (wrong_rr l B rb id _ h).mono ?_
    rintro e w1 ⟨rfl, hb⟩
    simp only [HE.out]
    have h1 := h.mod (Mod.of_below hb) (fun _ _ h => h)
    go_wp2_with fail
    refine (at_rr l B rb id _ h1).mono ?_
    rintro e w2 ⟨rfl, hb2⟩
    simp only [HK.out]
    have hb3 := hb.trans (hb2.mono hb.size)
    have h2 := h.mod (Mod.of_below hb3) (fun _ _ h => h)
    have h2' := h2
    obtain ⟨hl1, hl2, _, v, hbk, ho⟩ := h2
    have hin := own_inp ec_len ho rfl (by unfold maxLen; omega)
    obtain ⟨_, a, cap, rfl, hc⟩ := hin
    obtain ⟨g, off, rfl, hgl, hcl⟩ := hc (by omega)
    obtain rfl : off = 0 := by
      rcases ho.2 with ⟨h, _⟩ | ⟨g', cap', cur, h, _⟩
      · cases h
      · cases h; rfl
    have c1 := hcl k hkl 1 (by omega)
    rw [atl_get HL.out (v := .string d) rfl] at c1
    have f1 := ho.frozenAt (k * 2 + 1)
    have k0 := hbk.cell 0
    simp at k0
    simp only [Nat.zero_add] at c1
    clear hcl hc h1 hb hb2
    go_wp2
    go_ret2
    exact ⟨rfl, RR.put (d' := ByteArray.empty) h2' hbk ho HL.out (by simp),
      ((Mod.of_below hb3).mono (G := RF w B rb) (fun _ _ h => h.elim)).setCell (RF.row hb3 ho) _⟩

def rnN (l : List Ent) (id : Int) : Int := if rwE l id ≠ 0 then 0 else (l.getD (fidx l id).toNat (0, ByteArray.empty)).2.size
set_option maxHeartbeats 3200000 in
set_option maxRecDepth 100000 in
theorem waits_rr (l : List Ent) (B rb : Nat) (id : Int) (w : World) (h : RR w B rb l) :
    Calls Try.prog 50 #[.pointer (some ⟨rb, 0, none⟩), .int .i64 id] w fun e w' => e = .returned (.tuple #[.int .i64 (rnN l id), .int .i64 (rwE l id)]) ∧ Below w.heap.size w w' := by
  by_cases he : rwE l id ≠ 0
  · simp only [rnN, if_pos he]
    have hd : (rwE l id != 0) = true := by simpa using he
    clear he
    go_enter Try.func50, Try.ntmps50
    go_wp2_with (go_at_call 53; refine (wrong_rr l B rb id _ h).mono ?_; rintro e w' ⟨rfl, hb⟩)
    go_ret2
    exact ⟨rfl, hb⟩
  have he' : rwE l id = 0 := by simpa using he
  obtain ⟨k, d, hk, hl, _⟩ := rwE_zero he'
  have hg : l.getD (fidx l id).toNat (0, ByteArray.empty) = (id, d) := by simp [hk, hl]
  have hd16 := h.sz _ (List.mem_of_getElem? hl)
  have hkl : k < l.length := (List.getElem?_eq_some_iff.1 hl).1
  have HL := Lib.hid hl
  have HE := Lib.hid he'
  have HK := Lib.hid hk
  have e1 : rnN l id = d.size := by unfold rnN; rw [if_neg he, hg]
  rw [e1, he']
  clear e1 he he' hk hg hl
  go_enter Try.func50, Try.ntmps50
  go_wp2_with fail
  refine (wrong_rr l B rb id _ h).mono ?_
  rintro e w1 ⟨rfl, hb⟩
  simp only [HE.out]
  have h1 := h.mod (Mod.of_below hb) (fun _ _ h => h)
  have h1' := h1
  obtain ⟨hl1, hl2, _, v, hbk, ho⟩ := h1
  have hin := own_inp ec_len ho rfl (by unfold maxLen; omega)
  obtain ⟨_, a, cap, rfl, hc⟩ := hin
  obtain ⟨g, off, rfl, hgl, hcl⟩ := hc (by omega)
  have c1 := hcl k hkl 1 (by omega)
  rw [atl_get HL.out (v := .string d) rfl] at c1
  have k0 := hbk.cell 0
  simp at k0
  have hrl := hbk.lt
  clear hcl hc
  have HR := Lib.hid h1'
  have HB := Lib.hid hb
  clear h1' hb ho hbk h
  go_wp2_with fail
  go_region_held3 (fun w' => w'.cell? ⟨rb, 0, none⟩ = some (.slice (some ⟨g, off, none⟩) l.length cap) ∧ w'.cell? ⟨g, off + k * 2 + 1, none⟩ = some (.string d))
    (first | exact ⟨k0, c1⟩ | exact ⟨(hb2.cell (p := ⟨rb, 0, none⟩) hrl).trans k0, (hb2.cell (p := ⟨g, _, none⟩) hgl).trans c1⟩)
    (first | (go_at_call 52; refine (at_rr l B rb id _ ?_).mono ?_; exact HR.out.mod ((Mod.refl Nothing _).drew) (fun _ _ h => h); rintro e w' ⟨rfl, hb2⟩; simp only [HK.out]))
  go_wp2
  go_ret2
  exact ⟨rfl, HB.out.trans (((Below.refl w1.heap.size w1).drew.trans hb2).mono HB.out.size)⟩
end Go.Proofs.Ytjibphpkebcoeaa
