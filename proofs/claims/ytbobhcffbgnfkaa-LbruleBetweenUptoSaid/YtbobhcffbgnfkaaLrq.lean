/-
  Layer 20, plain Lean: what follows of the statuses by themselves.
-/
import Derived.Test.YtbobhcffbgnfkaaLrp
namespace Go.Proofs.Ytbobhcffbgnfkaa.lr

theorem spaced_two (s : S) (c after : Int) : ¬ spacedI s c after = 2 := by
  unfold spacedI
  repeat (split; · decide)
  decide

/-- where a line must be broken -/
def mustB (a c : Int) : Bool := a == 5 || a == 7 || a == 8 || (a == 6 && !(c == 7))
theorem must_iff (a c : Int) : mustB a c = true ↔ (a = 5 ∨ a = 7 ∨ a = 8 ∨ (a = 6 ∧ ¬ c = 7)) := by
  simp [mustB, or_assoc]
theorem ahead_two (s : S) (c after : Int) : (aheadI s c after == 2) = mustB s.last c := by
  rw [Bool.eq_iff_iff, must_iff, beq_iff_eq]
  unfold aheadI
  split
  · constructor
    · intro h; omega
    · intro h; omega
  · split
    · constructor
      · intro _; omega
      · intro _; rfl
    · have h1 : ¬ spacedI s c after = 2 := spaced_two s c after
      constructor
      · intro h
        exfalso
        revert h
        repeat (split; · decide)
        exact h1
      · intro h; omega
theorem ahead_space (s : S) (after : Int) (h : mustB s.last 9 = false) : aheadI s 9 after = 0 := by
  have h' : ¬ (mustB s.last 9 = true) := by simp [h]
  rw [must_iff] at h'
  unfold aheadI
  rw [if_neg (by omega), if_neg (by omega), if_pos (by omega)]

theorem last_state (us : List V) (k : Nat) : (stateTo us (k + 1)).last = (us.getD k (0, false)).1 := rfl

/-- states that tell the same -/
def Sim (s t : S) : Prop := s.last = t.last ∧ s.joined = t.joined ∧ s.hebrew = t.hebrew ∧ s.flags = t.flags ∧ s.number = t.number ∧ (s.base = t.base ∨ (s.base = 5 ∧ t.base = 0))
theorem sim_step {s t : S} (h : Sim s t) (c : Int) (j : Bool) : Sim (s.step c j) (t.step c j) := by
  obtain ⟨h1, h2, h3, h4, h5, h6⟩ := h
  refine ⟨rfl, rfl, ?_, ?_, ?_, ?_⟩
  · simp only [S.step, h1]
  · simp only [S.step, h4]
  · simp only [S.step, h5]
  · simp only [S.step]
    split
    · exact h6
    · exact .inl rfl
theorem sim_ahead {s t : S} (h : Sim s t) (c after : Int) : aheadI s c after = aheadI t c after := by
  obtain ⟨h1, h2, h3, h4, h5, h6⟩ := h
  obtain ⟨a, j, b, hb, f, n⟩ := s
  obtain ⟨a', j', b', hb', f', n'⟩ := t
  simp only at h1 h2 h3 h4 h5 h6
  subst h1; subst h2; subst h3; subst h4; subst h5
  rcases h6 with rfl | ⟨rfl, rfl⟩
  · rfl
  · simp only [aheadI, spacedI, overB, closB]
    simp
theorem sim_fresh (s : S) (c : Int) (j : Bool) : Sim ((s.step 5 false).step c j) (S.start.step c j) := by
  refine ⟨rfl, rfl, rfl, ?_, ?_, ?_⟩
  · simp [S.step, S.start]
  · simp [S.step, S.start, numStep]
  · simp only [S.step, S.start]
    split
    · exact .inr ⟨rfl, rfl⟩
    · exact .inl rfl

theorem getD_append_right (a b : List V) (k : Nat) (x : V) : (a ++ b).getD (a.length + k) x = b.getD k x := by
  rw [List.getD_eq_getElem?_getD, List.getD_eq_getElem?_getD, List.getElem?_append_right (by omega)]; congr 2; omega
theorem getD_append_left (a b : List V) (k : Nat) (x : V) (h : k < a.length) : (a ++ b).getD k x = a.getD k x := by
  rw [List.getD_eq_getElem?_getD, List.getD_eq_getElem?_getD, List.getElem?_append_left h]

theorem state_prefix (a b : List V) (k : Nat) (h : k ≤ a.length) : stateTo (a ++ b) k = stateTo a k := by
  induction k with
  | zero => rfl
  | succ k ih => rw [stateTo, stateTo, ih (by omega), getD_append_left a b k _ (by omega)]

/-- what stands behind the unit behind a boundary changes nothing of it -/
theorem status_prefix (a b : List V) (k : Nat) (h : k + 1 < a.length) : statusAt (a ++ b) k = statusAt a k := by
  rw [statusAt, statusAt, state_prefix a b k (by omega), getD_append_left a b k _ (by omega)]
  have e : afterOf (a ++ b) k = afterOf a k := by
    rw [afterOf, afterOf, if_pos (by simp; omega), if_pos h, getD_append_left a b _ _ h]
  rw [e]

/-- behind BK all is as at a text's beginning -/
theorem state_fresh (a b : List V) (k : Nat) : Sim (stateTo (a ++ (5, false) :: b) (a.length + 1 + (k + 1))) (stateTo b (k + 1)) := by
  have hs : stateTo (a ++ (5, false) :: b) (a.length + 1) = (stateTo (a ++ (5, false) :: b) a.length).step 5 false := by
    have := getD_append_right a ((5, false) :: b) 0 (0, false)
    rw [Nat.add_zero] at this
    rw [stateTo, this]; rfl
  have hg : ∀ k, (a ++ (5, false) :: b).getD (a.length + 1 + k) (0, false) = b.getD k (0, false) := by
    intro k
    rw [show a.length + 1 + k = a.length + (1 + k) from by omega, getD_append_right, Nat.add_comm 1 k]; rfl
  induction k with
  | zero =>
    rw [← Nat.add_assoc, stateTo, Nat.add_zero, hs]
    have := hg 0
    rw [Nat.add_zero] at this
    rw [this]
    exact sim_fresh _ _ _
  | succ k ih =>
    rw [← Nat.add_assoc, stateTo, hg, stateTo]
    exact sim_step ih _ _
theorem status_fresh (a b : List V) (k : Nat) (h : k + 1 < b.length) : statusAt (a ++ (5, false) :: b) (a.length + 1 + (k + 1)) = statusAt b (k + 1) := by
  have hg : ∀ k, (a ++ (5, false) :: b).getD (a.length + 1 + k) (0, false) = b.getD k (0, false) := by
    intro k
    rw [show a.length + 1 + k = a.length + (1 + k) from by omega, getD_append_right, Nat.add_comm 1 k]; rfl
  have e : afterOf (a ++ (5, false) :: b) (a.length + 1 + (k + 1)) = afterOf b (k + 1) := by
    rw [afterOf, afterOf]
    by_cases hk : k + 1 + 1 < b.length
    · rw [if_pos (by simp; omega), if_pos hk, Nat.add_assoc, hg]
    · rw [if_neg (by simp; omega), if_neg hk]
  rw [statusAt, statusAt, if_neg (by omega), if_neg (by omega), hg, e]
  exact sim_ahead (state_fresh a b k) _ _
theorem status_must (a b : List V) (_ : 0 < b.length) : statusAt (a ++ (5, false) :: b) (a.length + 1) = 2 := by
  have hs : (stateTo (a ++ (5, false) :: b) (a.length + 1)).last = 5 := by
    have := getD_append_right a ((5, false) :: b) 0 (0, false)
    rw [Nat.add_zero] at this
    rw [last_state, this]; rfl
  rw [statusAt, if_neg (by omega)]
  have h2 := ahead_two (stateTo (a ++ (5, false) :: b) (a.length + 1)) ((a ++ (5, false) :: b).getD (a.length + 1) (0, false)).1 (afterOf (a ++ (5, false) :: b) (a.length + 1))
  rw [hs] at h2
  simpa [mustB] using h2

/-- how many spaces stand ahead of a unit changes nothing -/
theorem ahead_nine (s t : S) (c after after' : Int) (h1 : s.last = 9) (h2 : t.last = 9) (h3 : s.joined = false) (h4 : t.joined = false) (h5 : s.base = t.base) : aheadI s c after = aheadI t c after' := by
  simp only [aheadI, spacedI, h1, h2, h3, h4, h5]
  simp
theorem state_nines (a : List V) (m : Nat) : (stateTo (a ++ List.replicate (m + 1) (9, false)) (a.length + (m + 1))).last = 9 ∧ (stateTo (a ++ List.replicate (m + 1) (9, false)) (a.length + (m + 1))).joined = false ∧
    (stateTo (a ++ List.replicate (m + 1) (9, false)) (a.length + (m + 1))).base = (stateTo a a.length).base := by
  have hk : ∀ k, k ≤ m → (stateTo (a ++ List.replicate (m + 1) (9, false)) (a.length + (k + 1))).last = 9 ∧ (stateTo (a ++ List.replicate (m + 1) (9, false)) (a.length + (k + 1))).joined = false ∧
      (stateTo (a ++ List.replicate (m + 1) (9, false)) (a.length + (k + 1))).base = (stateTo a a.length).base := by
    intro k
    induction k with
    | zero =>
      intro _
      have hg := getD_append_right a (List.replicate (m + 1) (9, false)) 0 (0, false)
      have hg' : (a ++ List.replicate (m + 1) ((9 : Int), false)).getD a.length (0, false) = (9, false) := hg
      rw [← Nat.add_assoc, stateTo, Nat.add_zero, hg', state_prefix a _ a.length (Nat.le_refl _)]
      exact ⟨rfl, rfl, rfl⟩
    | succ k ih =>
      intro hkm
      obtain ⟨_, _, h3⟩ := ih (by omega)
      have hg := getD_append_right a (List.replicate (m + 1) (9, false)) (k + 1) (0, false)
      have hr : (List.replicate (m + 1) ((9 : Int), false)).getD (k + 1) (0, false) = (9, false) := by
        rw [List.getD_eq_getElem?_getD, List.getElem?_replicate, if_pos (by omega)]; rfl
      rw [hr] at hg
      rw [← Nat.add_assoc, stateTo, hg]
      exact ⟨rfl, rfl, h3⟩
  exact hk m (Nat.le_refl _)
theorem status_spaces (a : List V) (m : Nat) (z : V) : statusAt (a ++ [(9, false)] ++ [z]) (a.length + 1) = statusAt (a ++ List.replicate (m + 1) (9, false) ++ [z]) (a.length + (m + 1)) := by
  rw [statusAt, statusAt, if_neg (by omega), if_neg (by omega)]
  have s1 := state_prefix (a ++ [((9 : Int), false)]) [z] (a.length + 1) (by simp)
  have s2 := state_prefix (a ++ List.replicate (m + 1) ((9 : Int), false)) [z] (a.length + (m + 1)) (by simp)
  rw [s1, s2]
  have n1 := state_nines a 0
  have n2 := state_nines a m
  have g1 := getD_append_right (a ++ [((9 : Int), false)]) [z] 0 (0, false)
  have g2 := getD_append_right (a ++ List.replicate (m + 1) ((9 : Int), false)) [z] 0 (0, false)
  simp only [List.length_append, List.length_replicate, List.length_singleton, Nat.add_zero] at g1 g2
  rw [g1, g2]
  exact ahead_nine _ _ _ _ _ n1.1 n2.1 n1.2.1 n2.2.1 (n1.2.2.trans n2.2.2.symm)
theorem between_length (us : List V) : (between us).length = us.length := by simp [between]
theorem between_at (us : List V) (k : Nat) (h : k < us.length) : (between us)[k]? = some (statusAt us k) := by simp [between, h]

end Go.Proofs.Ytbobhcffbgnfkaa.lr
