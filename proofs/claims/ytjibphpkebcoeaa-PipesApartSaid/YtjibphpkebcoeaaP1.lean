/- The table and the reference's list answer alike: plain lists, no program. -/
import Derived.Test.YtjibphpkebcoeaaA6
import Derived.Test.YtjibphpkebcoeaaC4
set_option linter.all false
namespace Go.Proofs.Ytjibphpkebcoeaa
open Go.RowKit

def entAt (s : PS) (i : Nat) : List Ent := match s i with | none => [] | some (_, d) => [((i : Int), d)]
def ents (s : PS) : List Ent := entAt s 0 ++ (entAt s 1 ++ entAt s 2)

theorem entAt_none {s : PS} {i : Nat} (h : s i = none) : entAt s i = [] := by simp [entAt, h]
theorem entAt_some {s : PS} {i c : Nat} {d : ByteArray} (h : s i = some (c, d)) : entAt s i = [((i : Int), d)] := by simp [entAt, h]
theorem infos_ents (s : PS) : infos s 3 = (ents s).flatMap ec := by
  rcases h0 : s 0 with _ | ⟨c0, d0⟩ <;> rcases h1 : s 1 with _ | ⟨c1, d1⟩ <;> rcases h2 : s 2 with _ | ⟨c2, d2⟩ <;>
    simp [infos, infoAt, ents, entAt, h0, h1, h2, ec]
theorem cnts_ents (s : PS) : cnts s 3 = (ents s).length := by
  rcases h0 : s 0 with _ | ⟨c0, d0⟩ <;> rcases h1 : s 1 with _ | ⟨c1, d1⟩ <;> rcases h2 : s 2 with _ | ⟨c2, d2⟩ <;>
    simp [cnts, cntAt, ents, entAt, h0, h1, h2]
theorem ents_len (s : PS) : (ents s).length ≤ 3 := by rw [← cnts_ents]; exact cnts_le s 3
theorem id_cases (id : Int) (h : ¬ (id < 0 ∨ 3 ≤ id)) : id = 0 ∨ id = 1 ∨ id = 2 := by omega

theorem waE_ents (s : PS) (id : Int) : waE s id = rwE (ents s) id := by
  by_cases h : id < 0 ∨ 3 ≤ id
  · have h' : id < 0 ∨ 2 < id := by omega
    simp [waE, rwE, h, h']
  have h' : ¬ (id < 0 ∨ 2 < id) := by omega
  rw [waE, rwE, if_neg h, if_neg h']
  rcases id_cases id h with rfl | rfl | rfl <;>
  rcases h0 : s 0 with _ | ⟨c0, d0⟩ <;> rcases h1 : s 1 with _ | ⟨c1, d1⟩ <;> rcases h2 : s 2 with _ | ⟨c2, d2⟩ <;>
    simp [ents, entAt, h0, h1, h2, fidx]
theorem waN_ents (s : PS) (id : Int) : waN s id = rnN (ents s) id := by
  unfold rnN
  rw [← waE_ents]
  by_cases h : id < 0 ∨ 3 ≤ id
  · simp [waE, waN, h]
  rw [waE, waN, if_neg h, if_neg h]
  rcases id_cases id h with rfl | rfl | rfl <;>
  rcases h0 : s 0 with _ | ⟨c0, d0⟩ <;> rcases h1 : s 1 with _ | ⟨c1, d1⟩ <;> rcases h2 : s 2 with _ | ⟨c2, d2⟩ <;>
    simp [ents, entAt, h0, h1, h2, fidx]
theorem ents_at (s : PS) (i c : Nat) (d : ByteArray) (hi : i < 3) (h : s i = some (c, d)) :
    ∃ k : Nat, fidx (ents s) i = k ∧ (ents s).getD k (0, ByteArray.empty) = ((i : Int), d) ∧ ∀ d', ents (up s i (some (c, d'))) = (ents s).set k ((i : Int), d') := by
  match i, hi with
  | 0, _ =>
    refine ⟨0, ?_⟩
    rcases h1 : s 1 with _ | ⟨c1, d1⟩ <;> rcases h2 : s 2 with _ | ⟨c2, d2⟩ <;>
    simp [ents, entAt, h, h1, h2, fidx, up]
  | 1, _ =>
    refine ⟨(entAt s 0).length, ?_⟩
    rcases h0 : s 0 with _ | ⟨c0, d0⟩ <;> rcases h2 : s 2 with _ | ⟨c2, d2⟩ <;>
    simp [ents, entAt, h, h0, h2, fidx, up]
  | 2, _ =>
    refine ⟨(entAt s 0 ++ entAt s 1).length, ?_⟩
    rcases h0 : s 0 with _ | ⟨c0, d0⟩ <;> rcases h1 : s 1 with _ | ⟨c1, d1⟩ <;>
    simp [ents, entAt, h, h0, h1, fidx, up]
theorem waE_at {s : PS} {i c : Nat} {d : ByteArray} (hi : i < 3) (h : s i = some (c, d)) : waE s i = 0 := by
  have : ¬ ((i : Int) < 0 ∨ 3 ≤ (i : Int)) := by omega
  simp [waE, this, h]
theorem wr_ents (s : PS) (id : Int) (x : ByteArray) : wrE s id x = wdE (ents s) id x ∧ ents (wrS s id x) = wdL (ents s) id x := by
  unfold wdE wdL
  rw [← waE_ents]
  by_cases h : id < 0 ∨ 3 ≤ id
  · simp [waE, wrE, wrS, h]
  obtain ⟨i, rfl⟩ := Int.eq_ofNat_of_zero_le (show 0 ≤ id by omega)
  rcases e : s i with _ | ⟨c, d⟩
  · simp [waE, wrE, wrS, h, e]
  · have hi : i < 3 := by omega
    obtain ⟨k, h1, h2, h3⟩ := ents_at s i c d hi e
    simp only [waE_at hi e, h1, Int.toNat_natCast, h2, wrE, wrS, if_neg h, e]
    by_cases hz : 16 < x.size + d.size
    · have hz' : 16 < d.size + x.size := by omega
      simp [hz, hz']
    · have hz' : ¬ 16 < d.size + x.size := by omega
      simp [hz, hz', h3]
theorem rd_ents (s : PS) (id n : Int) : rdE s id n = rrE (ents s) id n ∧ rdV s id n = rrV (ents s) id n ∧ ents (rdS s id n) = rrL (ents s) id n := by
  unfold rrE rrV rrL
  rw [← waE_ents]
  unfold rdE rdV rdS
  by_cases hn : n < 0
  · simp [hn]
  simp only [if_neg hn]
  by_cases h : id < 0 ∨ 3 ≤ id
  · simp [waE, h]
  obtain ⟨i, rfl⟩ := Int.eq_ofNat_of_zero_le (show 0 ≤ id by omega)
  rcases e : s i with _ | ⟨c, d⟩
  · simp [waE, h, e]
  · have hi : i < 3 := by omega
    obtain ⟨k, h1, h2, h3⟩ := ents_at s i c d hi e
    simp only [waE_at hi e, h1, Int.toNat_natCast, h2, if_neg h, e]
    by_cases hz : n < (d.size : Int)
    · have hz' : ¬ (d.size : Int) < n := by omega
      simp [hz, hz', h3]
    · by_cases hz' : (d.size : Int) < n
      · simp [hz, hz', h3]
      · obtain rfl : n = d.size := by omega
        simp [h3]
theorem clS_ents (s : PS) (id : Int) : ents (clS s id) = clL (ents s) id := by
  unfold clL notId
  rw [← waE_ents]
  by_cases h : id < 0 ∨ 3 ≤ id
  · simp [waE, clS, h]
  rw [waE, clS, if_neg h, if_neg h]
  rcases id_cases id h with rfl | rfl | rfl <;>
  rcases h0 : s 0 with _ | ⟨c0, d0⟩ <;> rcases h1 : s 1 with _ | ⟨c1, d1⟩ <;> rcases h2 : s 2 with _ | ⟨c2, d2⟩ <;>
    simp [ents, entAt, h0, h1, h2, up]
theorem lowest_ents (s : PS) : lowest s = ffree (ents s) := by
  rcases h0 : s 0 with _ | ⟨c0, d0⟩ <;> rcases h1 : s 1 with _ | ⟨c1, d1⟩ <;> rcases h2 : s 2 with _ | ⟨c2, d2⟩ <;>
    simp [lowest, ffree, ents, entAt, h0, h1, h2, fidx]
theorem opS_ents (s : PS) (N : Nat) (h : lowest s < 3) : ents (up s (lowest s) (some (N, ByteArray.empty))) = opL (ents s) := by
  unfold opL
  rw [← lowest_ents]
  rcases h0 : s 0 with _ | ⟨c0, d0⟩ <;> rcases h1 : s 1 with _ | ⟨c1, d1⟩ <;> rcases h2 : s 2 with _ | ⟨c2, d2⟩ <;>
    simp [lowest, h0, h1, h2] at h ⊢ <;> simp [ents, entAt, h0, h1, h2, up, lessL, moreL]
theorem ents_sz {w : World} {B b : Nat} {s : PS} (h : PR w B b s) : ∀ y ∈ ents s, y.2.size ≤ 16 := by
  have key : ∀ i, i < 3 → ∀ y ∈ entAt s i, y.2.size ≤ 16 := by
    intro i hi y hy
    unfold entAt at hy
    split at hy
    · simp at hy
    · simp at hy; subst hy; exact (h.pipe i hi _ _ ‹_›).2.1
  intro y hy
  simp only [ents, List.mem_append] at hy
  rcases hy with hy | hy | hy
  · exact key 0 (by omega) y hy
  · exact key 1 (by omega) y hy
  · exact key 2 (by omega) y hy
theorem ents_id (s : PS) : ∀ (i : Nat) (y : Ent), (ents s)[i]? = some y → y.1 < 3 := by
  intro i y hy
  have hy := List.mem_of_getElem? hy
  have key : ∀ i : Nat, i < 3 → ∀ y ∈ entAt s i, y.1 < 3 := by
    intro i hi y hy
    unfold entAt at hy
    split at hy
    · simp at hy
    · simp at hy; subst hy; show (i : Int) < 3; omega
  simp only [ents, List.mem_append] at hy
  rcases hy with hy | hy | hy
  · exact key 0 (by omega) y hy
  · exact key 1 (by omega) y hy
  · exact key 2 (by omega) y hy
end Go.Proofs.Ytjibphpkebcoeaa
