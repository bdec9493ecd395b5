/- Words for lists of structs in rows of the call's own. -/
import Derived.Test.YtidmkdaegglepaaA0
set_option linter.all false
namespace Go.Proofs.Ytidmkdaegglepaa
open Go.RowKit

theorem flat_get {α : Type} {sz : Nat} {f : α → List Value} (hf : ∀ x, (f x).length = sz) : ∀ (l : List α) (i j : Nat) (x : α), l[i]? = some x → j < sz → (l.flatMap f)[i * sz + j]? = (f x)[j]? := by
  intro l
  induction l with
  | nil => intro i j x h; simp at h
  | cons a l ih =>
    intro i j x h hj
    rw [List.flatMap_cons]
    cases i with
    | zero =>
      simp at h
      subst h
      rw [List.getElem?_append_left (by rw [hf]; omega)]
      simp
    | succ i =>
      simp at h
      rw [List.getElem?_append_right (by rw [hf, Nat.succ_mul]; omega), hf]
      rw [← ih i j x h hj]
      congr 1
      rw [Nat.succ_mul]; omega
theorem flat_len {α : Type} {sz : Nat} {f : α → List Value} (hf : ∀ x, (f x).length = sz) (l : List α) : (l.flatMap f).length = l.length * sz := by
  induction l with
  | nil => simp
  | cons a l ih => rw [List.flatMap_cons, List.length_append, hf, ih, List.length_cons, Nat.succ_mul]; omega
/-- Element i's cell j. -/
def atl {α : Type} (f : α → List Value) (l : List α) (i j : Nat) : Value := match l[i]? with
  | some x => (f x).getD j (.bool false)
  | none => .bool false
theorem atl_get {α : Type} {f : α → List Value} {l : List α} {i j : Nat} {x : α} {v : Value} (h : l[i]? = some x) (hv : (f x)[j]? = some v) : atl f l i j = v := by
  simp [atl, h, hv]
/-- A row of the call's own, read as a list of structs. -/
theorem own_inp {α : Type} {w : World} {B : Nat} {e : TypeId} {sz : Nat} {v : Value} {n : Nat} {f : α → List Value} (hf : ∀ x, (f x).length = sz) {l : List α} (h : w.ownsRow B e sz v n (l.flatMap f)) (hl : l.length = n) (hm : n ≤ maxLen) :
    Inp w w.heap.size v n sz (atl f l) := by
  refine ⟨hm, ?_⟩
  rcases h.2 with ⟨rfl, rfl⟩ | ⟨g, cap, cur, rfl, hg, hh, hc, _, hs, ht⟩
  · exact ⟨none, 0, rfl, fun h => absurd h (by omega)⟩
  · refine ⟨_, cap, rfl, fun h0 => ⟨g, 0, rfl, ?_, fun i hi j hj => ?_⟩⟩
    · rcases Nat.lt_or_ge g w.heap.size with h1 | h1
      · exact h1
      · rw [Array.getElem?_eq_none h1] at hh; cases hh
    · rw [cell_of_row _ _ _ _ _ _ hh, Nat.zero_add]
      have hlt : i * sz + j < n * sz := by
        have : (i + 1) * sz ≤ n * sz := Nat.mul_le_mul_right sz (by omega)
        rw [Nat.succ_mul] at this
        omega
      obtain ⟨x, hx⟩ : ∃ x, l[i]? = some x := ⟨l[i]'(by omega), List.getElem?_eq_getElem (by omega)⟩
      have h1 := flat_get hf l i j x hx hj
      rw [← ht, List.getElem?_take, if_pos hlt, Array.getElem?_toList] at h1
      rw [h1]
      have h2 : (f x)[j]? = some ((f x)[j]'(by rw [hf]; exact hj)) := List.getElem?_eq_getElem _
      rw [h2, atl_get hx h2]
theorem take_snoc_list {α : Type} {l : List α} {k : Nat} {x : α} (h : l[k]? = some x) : l.take (k + 1) = l.take k ++ [x] := by
  rw [List.take_succ, h]; rfl
theorem news_new2 (w : World) (o : Obj) (l : List Value) (T : TypeId) : ∀ (j : Nat) (u : Value), l[j]? = some u → ((w.alloc o).alloc (.cells l.toArray T)).cell? ((⟨w.heap.size + 1, 0, none⟩ : Addr).add j) = some u := by
  have := news_new (w.alloc o) l T
  simp only [World.size_alloc] at this
  exact this
theorem own_base {w : World} {base B : Nat} {e : TypeId} {size : Nat} {v : Value} {n : Nat} {xs : List Value} (h : w.ownsRow base e size v n xs) (hB : B ≤ base) : w.ownsRow B e size v n xs := by
  obtain ⟨h1, h2⟩ := h
  refine ⟨h1, ?_⟩
  rcases h2 with h2 | ⟨g, cap, cur, hv, hg, r⟩
  · exact Or.inl h2
  · exact Or.inr ⟨g, cap, cur, hv, Nat.le_trans hB hg, r⟩
/-- A store into a block of another type leaves the row. -/
theorem own_set {w : World} {base : Nat} {e : TypeId} {size : Nat} {v : Value} {n : Nat} {xs : List Value} (h : w.ownsRow base e size v n xs) {b : Nat} {t : TypeId} {cs : Array Value} (hb : Blk w b t cs) (hne : t ≠ e) (i : Nat) (u : Value) :
    (w.setCell ⟨b, i, none⟩ u).ownsRow base e size v n xs := by
  obtain ⟨h1, h2⟩ := h
  refine ⟨h1, ?_⟩
  rcases h2 with h2 | ⟨g, cap, cur, hv, hg, hh, r⟩
  · exact Or.inl h2
  · refine Or.inr ⟨g, cap, cur, hv, hg, ?_, r⟩
    have hbk : Blk w g e cur := hh
    exact hbk.far (p := ⟨b, i, none⟩) (hbk.ne_ hb hne.symm) u
end Go.Proofs.Ytidmkdaegglepaa
