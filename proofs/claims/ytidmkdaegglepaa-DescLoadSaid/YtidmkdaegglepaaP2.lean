/- What a step does to one slot: plain laws. -/
import Derived.Test.YtidmkdaegglepaaS9
set_option linter.all false
namespace Go.Proofs.Ytidmkdaegglepaa
open Go.RowKit

theorem look_put {L : List DE} (e : DE) (p s : Int) {x : DE} (h : look L p s = some x) : look (putL L e) p s = some x := by
  unfold putL
  split
  · rename_i k hk
    have hn := (free_look hk).1
    rw [look_ins { e with slot := k } p s L hn, if_neg, h]
    rintro ⟨rfl, rfl⟩
    rw [hn] at h
    cases h
  · exact h
theorem look_forkF {c : Int} : ∀ (l acc : List DE) {p s : Int} {x : DE}, look acc p s = some x → (∀ y, look acc p s = some y → ∀ z ∈ l, ¬ (c = p ∧ z.slot = s)) → look (forkF c acc l) p s = some x := by
  intro l
  induction l with
  | nil => intro acc p s x h _; exact h
  | cons y r ih =>
    intro acc p s x h hno
    have hy := hno x h y List.mem_cons_self
    have e : look (insL acc (setp c y)) p s = some x := by
      have key : ∀ l : List DE, look l p s = some x → look (insL l (setp c y)) p s = some x := by
        intro l
        induction l with
        | nil => intro h; cases h
        | cons z t ih2 =>
          intro h
          rw [look_cons] at h
          unfold insL
          split
          · rw [look_cons, if_neg (show ¬ ((setp c y).pid = p ∧ (setp c y).slot = s) from hy), look_cons]
            exact h
          · rw [look_cons]
            split
            · rename_i hz
              rw [if_pos hz] at h
              exact h
            · rename_i hz
              rw [if_neg hz] at h
              exact ih2 h
      exact key acc h
    exact ih _ e fun _ _ z hz => hno x h z (List.mem_cons_of_mem _ hz)
theorem look_fork {L : List DE} (hG : Good L) (a c p s : Int) {x : DE} (h : look L p s = some x) : look (forkL L a c) p s = some x := by
  unfold forkL
  split
  · exact h
  · split
    · rename_i h1 he
      refine look_forkF _ _ h fun y hy z hz h2 => ?_
      have := of_empty hG he s
      rw [h2.1, hy] at this
      cases this
    · exact h
/-- A step that neither moves the place at p, s nor closes it leaves what stands there. -/
theorem step_keeps {L : List DE} (hG : Good L) (st : ST) (p s : Int) {x : DE} (h : look L p s = some x) :
    (¬ (st.what = 3 ∧ st.pid = p ∧ st.slot = s) ∧ ¬ (st.what = 5 ∧ st.pid = p ∧ st.slot = s) ∧ ¬ (st.what = 7 ∧ st.pid = p) → look (stepL L st) p s = some x) ∧
    (¬ (st.what = 5 ∧ st.pid = p ∧ st.slot = s) ∧ ¬ (st.what = 7 ∧ st.pid = p) → (look (stepL L st) p s).isSome = true) ∧
    (¬ (st.what = 3 ∧ st.pid = p ∧ st.slot = s) → ∀ y, look (stepL L st) p s = some y → y = x) := by
  unfold stepL
  by_cases h0 : st.what = 0 ∨ st.what = 1 ∨ st.what = 2
  · rw [if_pos h0]
    have : look (addL L st.pid st.kind st.obj) p s = some x := by
      unfold addL
      split
      · exact look_put _ p s h
      · exact h
    rw [this]
    exact ⟨fun _ => rfl, fun _ => rfl, fun _ y hy => by cases hy; rfl⟩
  · rw [if_neg h0]
    by_cases h3 : st.what = 3
    · rw [if_pos h3]
      have h1 : ¬ (st.pid = p ∧ st.slot = s) → look (skX L st.pid st.slot st.n) p s = some x := by
        intro hne
        unfold skX
        split
        · split
          · rw [look_sk, if_neg (fun h => hne ⟨h.1.symm, h.2.symm⟩), h]
          · exact h
        · exact h
      have h2 : (look (skX L st.pid st.slot st.n) p s).isSome = true := by
        unfold skX
        split
        · rename_i z hz
          split
          · rw [look_sk]
            split
            · rw [hz]; rfl
            · rw [h]; rfl
          · rw [h]; rfl
        · rw [h]; rfl
      refine ⟨fun hn => h1 fun hp => hn.1 ⟨h3, hp⟩, fun _ => h2, fun hn y hy => ?_⟩
      rw [h1 fun hp => hn ⟨h3, hp⟩] at hy
      cases hy
      rfl
    · rw [if_neg h3]
      by_cases h4 : st.what = 4
      · rw [if_pos h4]
        have : look (dupL L st.pid st.slot) p s = some x := by
          unfold dupL
          split
          · exact look_put _ p s h
          · exact h
        rw [this]
        exact ⟨fun _ => rfl, fun _ => rfl, fun _ y hy => by cases hy; rfl⟩
      · rw [if_neg h4]
        by_cases h5 : st.what = 5
        · rw [if_pos h5, look_cl]
          by_cases hp : p = st.pid ∧ s = st.slot
          · rw [if_pos hp]
            refine ⟨fun hn => absurd ⟨h5, hp.1.symm, hp.2.symm⟩ hn.2.1, fun hn => absurd ⟨h5, hp.1.symm, hp.2.symm⟩ hn.1, fun _ y hy => by cases hy⟩
          · rw [if_neg hp, h]
            exact ⟨fun _ => rfl, fun _ => rfl, fun _ y hy => by cases hy; rfl⟩
        · rw [if_neg h5]
          by_cases h6 : st.what = 6
          · rw [if_pos h6, look_fork hG _ _ p s h]
            exact ⟨fun _ => rfl, fun _ => rfl, fun _ y hy => by cases hy; rfl⟩
          · rw [if_neg h6]
            by_cases h7 : st.what = 7
            · rw [if_pos h7, dropL, look_filter hG.keys, h]
              have hx := look_at h
              by_cases hp : st.pid = p
              · have e : dropD st.pid x = false := by simp [dropD, hx.2.1, hp]
                refine ⟨fun hn => absurd ⟨h7, hp⟩ hn.2.2, fun hn => absurd ⟨h7, hp⟩ hn.2, fun _ y hy => ?_⟩
                simp [Option.filter, e] at hy
              · have e : dropD st.pid x = true := by simp [dropD, hx.2.1]; exact fun h => hp h.symm
                simp only [Option.filter, e, if_true]
                exact ⟨fun _ => trivial, fun _ => rfl, fun _ y hy => by cases hy; rfl⟩
            · rw [if_neg h7, h]
              exact ⟨fun _ => rfl, fun _ => rfl, fun _ y hy => by cases hy; rfl⟩
theorem places_law {L : List DE} (hG : Good L) (st : ST) (p s : Int) :
    gtE L p s = 6 ∨ (gtE L p s = 0 ∧ gtE (stepL L st) p s = 6 ∧ ((st.what = 5 ∧ st.pid = p ∧ st.slot = s) ∨ (st.what = 7 ∧ st.pid = p))) ∨
    (gtE L p s = 0 ∧ gtE (stepL L st) p s = 0 ∧ ((st.what = 3 ∧ st.pid = p ∧ st.slot = s) ∨ (¬ (st.what = 3 ∧ st.pid = p ∧ st.slot = s) ∧ atV (stepL L st) p s = atV L p s))) := by
  rcases h : look L p s with _ | x
  · exact .inl (by simp [gtE, atB, h])
  · have e1 : gtE L p s = 0 := by simp [gtE, atB, h]
    obtain ⟨k1, k2, k3⟩ := step_keeps hG st p s h
    refine .inr ?_
    rcases h2 : look (stepL L st) p s with _ | y
    · refine .inl ⟨e1, by simp [gtE, atB, h2], ?_⟩
      by_cases h5 : st.what = 5 ∧ st.pid = p ∧ st.slot = s
      · exact .inl h5
      · by_cases h7 : st.what = 7 ∧ st.pid = p
        · exact .inr h7
        · have := k2 ⟨h5, h7⟩
          rw [h2] at this
          cases this
    · refine .inr ⟨e1, by simp [gtE, atB, h2], ?_⟩
      by_cases h3 : st.what = 3 ∧ st.pid = p ∧ st.slot = s
      · exact .inl h3
      · exact .inr ⟨h3, by have := k3 h3 y h2; simp [atV, h, h2, this]⟩
end Go.Proofs.Ytidmkdaegglepaa
