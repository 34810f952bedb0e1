/-
  Layer 19, plain laws: marks behind a text, and a text behind a space.
-/
import Derived.Test.YtgkmpndebcdigaaLbp
namespace Go.Proofs.Ytgkmpndebcdigaa.lb

theorem seen_nil (cs : List Int) (k : Nat) : seen cs [] k = cs.getD k 0 := by
  rw [seen, if_neg (by simp)]

theorem unitsTo_append (cs t : List Int) (k : Nat) (hk : k ≤ cs.length) : unitsTo (cs ++ t) [] k = unitsTo cs [] k := by
  induction k with
  | zero => rfl
  | succ k ih =>
    rw [unitsTo, unitsTo, ih (by omega), seen_nil, seen_nil]
    congr 1
    rw [List.getD_eq_getElem?_getD, List.getD_eq_getElem?_getD, List.getElem?_append_left (by omega)]

theorem units_empty (cs ws : List Int) (h : units cs ws = []) : cs.length = 0 := by
  have := (units_are cs ws cs.length).last
  rw [show unitsTo cs ws cs.length = [] from h] at this
  exact this.symm

/-- marks behind the last unit -/
theorem units_marks (cs : List Int) (r : List U) (l : U) (h : units cs [] = r ++ [l]) (ht : takes l.cls = true) (m : Nat) :
    ∃ j, units (cs ++ List.replicate m 3) [] = r ++ [⟨l.frm, cs.length + m, l.cls, j⟩] := by
  have hto : l.to = cs.length := by
    have := (units_are cs [] cs.length).last
    rw [show unitsTo cs [] cs.length = r ++ [l] from h, ends_last] at this
    exact this
  have key : ∀ d, d ≤ m → ∃ j, unitsTo (cs ++ List.replicate m 3) [] (cs.length + d) = r ++ [⟨l.frm, cs.length + d, l.cls, j⟩] := by
    intro d
    induction d with
    | zero =>
      intro _
      refine ⟨l.joined, ?_⟩
      rw [Nat.add_zero, unitsTo_append cs _ _ (Nat.le_refl _)]
      rw [show unitsTo cs [] cs.length = r ++ [l] from h, ← hto]
    | succ d ih =>
      intro hd
      obtain ⟨j, hj⟩ := ih (by omega)
      refine ⟨false, ?_⟩
      rw [show cs.length + (d + 1) = cs.length + d + 1 from rfl, unitsTo, hj, seen_nil]
      have e : (cs ++ List.replicate m 3).getD (cs.length + d) 0 = 3 := by
        rw [List.getD_eq_getElem?_getD, List.getElem?_append_right (by omega)]
        rw [show cs.length + d - cs.length = d from by omega, List.getElem?_replicate, if_pos (by omega)]
        rfl
      rw [e]
      simp [unitStep, mark, ht]
  obtain ⟨j, hj⟩ := key m (Nat.le_refl _)
  exact ⟨j, by rw [units]; simpa using hj⟩

/-- a unit that stands further behind -/
def U.shift (d : Nat) (u : U) : U := ⟨u.frm + d, u.to + d, u.cls, u.joined⟩

theorem units_space (a b : List Int) : units (a ++ [9] ++ b) [] = units (a ++ [9]) [] ++ (units b []).map (U.shift (a.length + 1)) := by
  have hl : (a ++ [9] : List Int).length = a.length + 1 := by simp
  have h9 : ∃ r, units (a ++ [9]) [] = r ++ [⟨a.length, a.length + 1, 9, false⟩] := by
    rw [units, hl, unitsTo, seen_nil]
    have e : (a ++ [9] : List Int).getD a.length 0 = 9 := by
      rw [List.getD_eq_getElem?_getD, List.getElem?_append_right (Nat.le_refl _)]; simp
    rw [e]
    generalize unitsTo (a ++ [9]) [] a.length = us
    refine ⟨us, ?_⟩
    rw [unitStep]
    split <;> simp [mark, cls]
  obtain ⟨r, hr⟩ := h9
  have key : ∀ k, k ≤ b.length → unitsTo (a ++ [9] ++ b) [] (a.length + 1 + k) = units (a ++ [9]) [] ++ (unitsTo b [] k).map (U.shift (a.length + 1)) := by
    intro k
    induction k with
    | zero =>
      intro _
      rw [Nat.add_zero, ← hl, unitsTo_append _ _ _ (Nat.le_refl _)]
      simp [unitsTo, units]
    | succ k ih =>
      intro hk
      rw [show a.length + 1 + (k + 1) = a.length + 1 + k + 1 from rfl, unitsTo, ih (by omega), seen_nil, unitsTo, seen_nil]
      have e : (a ++ [9] ++ b).getD (a.length + 1 + k) 0 = b.getD k 0 := by
        rw [List.getD_eq_getElem?_getD, List.getD_eq_getElem?_getD, List.getElem?_append_right (by simp), hl]
        rw [show a.length + 1 + k - (a.length + 1) = k from by omega]
      rw [e]
      generalize b.getD k 0 = c
      rcases (unitsTo b [] k).eq_nil_or_concat with hn | ⟨s, l, hs⟩
      · rw [hn, hr]
        simp [unitStep, U.shift, takes, show k + (a.length + 1) = a.length + 1 + k from by omega, show k + 1 + (a.length + 1) = a.length + 1 + k + 1 from by omega]
      · rw [hs]
        simp only [List.concat_eq_append, List.map_append, List.map_cons, List.map_nil, ← List.append_assoc]
        simp only [unitStep, List.getLast?_concat, List.dropLast_concat]
        have hc : (U.shift (a.length + 1) l).cls = l.cls := rfl
        rw [hc]
        cases hq : (mark c && takes l.cls)
        · simp [U.shift, show k + (a.length + 1) = a.length + 1 + k from by omega, show k + 1 + (a.length + 1) = a.length + 1 + k + 1 from by omega]
        · simp [U.shift, show k + 1 + (a.length + 1) = a.length + 1 + k + 1 from by omega]
  have := key b.length (Nat.le_refl _)
  rw [units, List.length_append, hl, this]
  rfl

end Go.Proofs.Ytgkmpndebcdigaa.lb
