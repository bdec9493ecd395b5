/- Slices of structs that come in, read cell by cell; and the laws' common frame. -/
import Derived.Test.YtidmkdaegglepaaA0
import Derived.ProofKit
import Derived.OpenShut
import Derived.ChangeOld
import Derived.Deep.Slices
import Derived.Deep.Fields
set_option linter.all false
namespace Go.Proofs.Ytidmkdaegglepaa
open Go.ChangeShapes Go.WideShapes Go.ChangeAt Go.RowKit Go.Deep

theorem Try.own : ownKnob Try.prog.godebug = none := by kernel_rfl
theorem Try.laidOut : laidOutB Try.prog = true := by kernel_rfl

theorem addr_at {w : World} {a : Addr} {v : Value} (h : w.cell? a = some v) : a = ⟨a.block, a.off, none⟩ ∧ a.block < w.heap.size := by
  unfold World.cell? at h
  split at h
  · rename_i c e f hb
    have hlt : a.block < w.heap.size := by
      rcases Nat.lt_or_ge a.block w.heap.size with h1 | h1
      · exact h1
      · rw [Array.getElem?_eq_none h1] at hb; cases hb
    refine ⟨?_, hlt⟩
    obtain ⟨b, o, sp⟩ := a
    cases sp with
    | none => rfl
    | some x => simp at h
  · cases h
theorem add_plain (b o n : Nat) : (⟨b, o, none⟩ : Addr).add n = ⟨b, o + n, none⟩ := by
  unfold Addr.add
  split
  · subst_vars; rfl
  · rfl

section
variable {H : Type} {enc : TypeId × Value → H} {P : Program} {w : World}
theorem inp_open {spare : Nat → Bool} {held : Bool} {t e : TypeId} {fs : Array Field} {v : Value} {d : DataW H} {p : List MemPlace} (ht : P.underlying t = some (.slice e)) (he : P.underlying e = some (.struct fs))
    (hone : oneCellFields P fs = true) (hC : P.cellsOf e = fs.size) (h0 : 0 < fs.size) (hv : ∃ a len cap, v = .slice a len cap) (h : DataW.Trod enc P w 0 spare held t v d p) :
    ∃ (n : Nat) (f : Nat → Nat → Value), Inp w w.heap.size v n fs.size f ∧ ∀ i, i < n → ∀ (j : Nat) (x : Field), fs[j]? = some x → ∃ m y, DataW.trod enc P w 0 spare held m x.type [f i j] = some y := by
  obtain ⟨a0, len0, cap0, rfl⟩ := hv
  obtain ⟨fuel, hf⟩ := h
  rcases open_slice ht hf with ⟨hcs, _⟩ | ⟨a, len, cap, m, n, D, Pl, hcs, _, hl, hm, hmm, _, hi⟩
  · simp [Value.cells] at hcs
    obtain ⟨rfl, rfl, rfl⟩ := hcs
    exact ⟨0, fun _ _ => .bool false, ⟨by simp [maxLen], none, 0, rfl, fun h => absurd h (by omega)⟩, fun i h => absurd h (by omega)⟩
  · simp [Value.cells] at hcs
    obtain ⟨rfl, rfl, rfl⟩ := hcs
    have hlm : len0 ≤ m := by rw [hmm]; split <;> omega
    rw [hC] at hi
    refine ⟨len0, fun i j => (w.cell? (a.add (i * fs.size + j))).getD (.bool false), ⟨by omega, _, _, rfl, fun hpos => ?_⟩, ?_⟩
    · have key : ∀ i, i < len0 → ∀ j, j < fs.size → ∃ u, w.cell? (a.add (i * fs.size + j)) = some u := by
        intro i hil j hj
        obtain ⟨cs', hc, _⟩ := hi i (by omega)
        obtain ⟨_, hcl, hat⟩ := World.cells?_some hc
        refine ⟨cs'[j]'(by omega), ?_⟩
        rw [← add_add, hat j hj]
        exact List.getElem?_eq_getElem (by omega)
      obtain ⟨u, hu⟩ := key 0 hpos 0 h0
      have hu' : w.cell? a = some u := by simpa [Addr.add] using hu
      obtain ⟨ea, hlt⟩ := addr_at hu'
      refine ⟨a.block, a.off, by rw [← ea], hlt, fun i hil j hj => ?_⟩
      obtain ⟨u, hu⟩ := key i hil j hj
      have e1 : a.add (i * fs.size + j) = ⟨a.block, a.off + i * fs.size + j, none⟩ := by
        rw [ea, add_plain, Nat.add_assoc]
      show _ = some ((w.cell? (a.add (i * fs.size + j))).getD (.bool false))
      rw [hu]
      rw [e1] at hu
      exact hu
    · intro i hil j x hx
      obtain ⟨cs', hc, ht'⟩ := hi i (by omega)
      obtain ⟨_, hcl, hat⟩ := World.cells?_some hc
      obtain ⟨ys, n', _, hy, hlen, hyl, hfl⟩ := DataW.trod_struct he ht'
      obtain ⟨ho, hk⟩ := hone_of hone j x hx
      have hjl : j < fs.size := (Array.getElem?_eq_some_iff.1 hx).1
      have h1 := hfl j x hx
      rw [ho, hk] at h1
      have h2 : (cs'.drop j).take 1 = [cs'[j]'(by omega)] := by
        rw [List.drop_eq_getElem_cons (by omega)]
        rfl
      rw [h2] at h1
      have h3 : w.cell? (a.add (i * fs.size + j)) = some (cs'[j]'(by omega)) := by
        rw [← add_add, hat j hjl]
        exact List.getElem?_eq_getElem (by omega)
      refine ⟨n', ys[j]'(by omega), ?_⟩
      show DataW.trod enc P w 0 spare held n' x.type [(w.cell? (a.add (i * fs.size + j))).getD (.bool false)] = _
      rw [h3]
      exact h1.trans (List.getElem?_eq_getElem (by omega))
theorem cell_int {spare : Nat → Bool} {held : Bool} {t : TypeId} {k : IntKind} {v : Value} (ht : P.underlying t = some (.int k)) (h : ∃ m y, DataW.trod enc P w 0 spare held m t [v] = some y) : ∃ n, v = .int k n ∧ (Lit.int k n).wf = true := by
  obtain ⟨m, y, h⟩ := h
  obtain ⟨n, h1, _, h3⟩ := DataW.trod_int ht h
  simp at h1
  exact ⟨n, h1, h3⟩
theorem cell_string {spare : Nat → Bool} {held : Bool} {t : TypeId} {v : Value} (ht : P.underlying t = some .string) (h : ∃ m y, DataW.trod enc P w 0 spare held m t [v] = some y) : ∃ s : ByteArray, v = .string s ∧ s.size ≤ maxLen := by
  obtain ⟨m, y, h⟩ := h
  obtain ⟨n, h1, _, h3⟩ := DataW.trod_string ht h
  simp at h1
  exact ⟨n, h1, h3⟩
end
theorem Inp.congr {w : World} {B : Nat} {v : Value} {n sz : Nat} {f g : Nat → Nat → Value} (h : Inp w B v n sz f) (e : ∀ i, i < n → ∀ j, j < sz → f i j = g i j) : Inp w B v n sz g := by
  obtain ⟨hn, a, cap, rfl, h⟩ := h
  refine ⟨hn, a, cap, rfl, fun h0 => ?_⟩
  obtain ⟨b, off, rfl, hlt, hc⟩ := h h0
  exact ⟨b, off, rfl, hlt, fun i hi j hj => by rw [hc i hi j hj, e i hi j hj]⟩
end Go.Proofs.Ytidmkdaegglepaa
