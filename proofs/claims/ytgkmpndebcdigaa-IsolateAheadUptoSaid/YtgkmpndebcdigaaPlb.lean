/-
  Layer 9, plain laws: what is matched is matched both ways, and two matches do not cross.
-/
import Derived.Test.YtgkmpndebcdigaaPlm
namespace Go.Proofs.Ytgkmpndebcdigaa

theorem closesL_cons (c : Int) (r : List Int) (n : Int) (k : Nat) : closesL (c :: r) n k =
    if (if c = 22 then (if iso c then n + 1 else n) - 1 else if iso c then n + 1 else n) = 0 then (k : Int)
    else closesL r (if c = 22 then (if iso c then n + 1 else n) - 1 else if iso c then n + 1 else n) (k + 1) := rfl

theorem step_le (c m : Int) : (if c = 22 then (if iso c then m + 1 else m) - 1 else if iso c then m + 1 else m) = m + (if iso c then 1 else 0) - (if c = 22 then 1 else 0) := by
  split <;> split <;> omega

/-- a count that is lower closes earlier -/
theorem closesL_lt (l : List Int) (a b : Int) (k p : Nat) (hb : 1 ≤ b) (hab : b < a) (h : closesL l a k = p) : ∃ q : Nat, closesL l b k = q ∧ q < p := by
  induction l generalizing a b k with
  | nil => rw [closesL] at h; omega
  | cons c r ih =>
    rw [closesL_cons, step_le] at h ⊢
    have hd : (if iso c then (1 : Int) else 0) - (if c = 22 then 1 else 0) ≥ -1 := by split <;> split <;> omega
    generalize (if iso c then (1 : Int) else 0) = u at *
    generalize (if c = 22 then (1 : Int) else 0) = v at *
    by_cases hb0 : b + u - v = 0
    · rw [if_pos hb0]
      rw [if_neg (by omega)] at h
      rcases closesL_bd r (a + u - v) (k + 1) with h1 | ⟨q, h1, h2, _⟩
      · rw [h1] at h; omega
      · rw [h1] at h; exact ⟨k, rfl, by omega⟩
    · rw [if_neg hb0]
      rw [if_neg (by omega)] at h
      exact ih (a + u - v) (b + u - v) (k + 1) (by omega) (by omega) h

/-- what closes a beginning is a PDI -/
theorem closesL_pdi (cs : List Int) (a : Int) (k p : Nat) (ha : 1 ≤ a) (h : closesL (cs.drop k) a k = p) : cs[p]? = some 22 := by
  by_cases hk : k < cs.length
  · have hc : cs.drop k = cs[k] :: cs.drop (k + 1) := List.drop_eq_getElem_cons hk
    rw [hc, closesL_cons] at h
    by_cases h0 : (if cs[k] = 22 then (if iso cs[k] then a + 1 else a) - 1 else if iso cs[k] then a + 1 else a) = 0
    · rw [if_pos h0] at h
      have hp : p = k := by omega
      subst hp
      have h22 : cs[p] = 22 := by
        by_cases e : cs[p] = 22
        · exact e
        · rw [if_neg e] at h0; split at h0 <;> omega
      rw [List.getElem?_eq_getElem hk, h22]
    · rw [if_neg h0] at h
      refine closesL_pdi cs _ (k + 1) p ?_ h
      rw [step_le] at h0 ⊢
      split <;> split <;> simp_all <;> omega
  · rw [List.drop_eq_nil_of_le (by omega), closesL] at h; omega
termination_by cs.length - k

/-- on the way to what closes, the count is one at least -/
theorem closesL_on (cs : List Int) (a : Int) (k p d : Nat) (ha : 1 ≤ a) (h : closesL (cs.drop k) a k = p) (hd : k + d ≤ p) : ∃ b : Int, 1 ≤ b ∧ closesL (cs.drop (k + d)) b (k + d) = p := by
  induction d generalizing a k with
  | zero => exact ⟨a, ha, h⟩
  | succ d ih =>
    by_cases hk : k < cs.length
    · have hc : cs.drop k = cs[k] :: cs.drop (k + 1) := List.drop_eq_getElem_cons hk
      rw [hc, closesL_cons, step_le] at h
      by_cases h0 : a + (if iso cs[k] then 1 else 0) - (if cs[k] = 22 then 1 else 0) = 0
      · rw [if_pos h0] at h; omega
      · rw [if_neg h0] at h
        obtain ⟨b, hb, hh⟩ := ih (a + (if iso cs[k] then 1 else 0) - (if cs[k] = 22 then 1 else 0)) (k + 1) (by split at h0 <;> split at h0 <;> simp_all <;> omega) h (by omega)
        exact ⟨b, hb, by rw [show k + (d + 1) = k + 1 + d from by omega]; exact hh⟩
    · rw [List.drop_eq_nil_of_le (by omega), closesL] at h; omega

theorem isoAt_get {cs : List Int} {i : Nat} (hi : i < cs.length) : isoAt cs i = iso cs[i] := by
  rw [isoAt, List.getD_eq_getElem?_getD, List.getElem?_eq_getElem hi]; rfl
theorem isoAt_lt {cs : List Int} {i : Nat} (h : isoAt cs i = true) : i < cs.length := by
  rcases Nat.lt_or_ge i cs.length with h1 | h1
  · exact h1
  · rw [isoAt, List.getD_eq_getElem?_getD, List.getElem?_eq_none h1] at h; exact absurd h (by decide)

theorem cl_iso (cs : List Int) (i : Nat) (h : isoAt cs i = true) : cl cs i = closesL (cs.drop (i + 1)) 1 (i + 1) := by
  have hi := isoAt_lt h
  have h22 : ¬ cs.getD i 0 = 22 := fun e => by rw [isoAt, iso_22 _ e] at h; cases h
  rw [cl, closesL_step cs 0 i hi, h]
  simp only [h22, if_false, if_true]
  rw [if_neg (by decide)]
  rfl

theorem cl_lt (cs : List Int) (i p : Nat) (h : isoAt cs i = true) (hc : cl cs i = p) : i < p ∧ p < cs.length ∧ cs[p]? = some 22 := by
  have hi := isoAt_lt h
  rw [cl_iso cs i h] at hc
  have h22 := closesL_pdi cs 1 (i + 1) p (by omega) hc
  refine ⟨?_, (List.getElem?_eq_some_iff.1 h22).1, h22⟩
  rcases closesL_bd (cs.drop (i + 1)) 1 (i + 1) with h1 | ⟨q, h1, h2, _⟩
  · rw [h1] at hc; omega
  · rw [h1] at hc; omega

/-- a beginning inside a pair is closed inside -/
theorem cl_inside (cs : List Int) (k p i : Nat) (h : isoAt cs k = true) (hc : cl cs k = p) (hi : isoAt cs i = true) (h1 : k < i) (h2 : i < p) : ∃ q : Nat, cl cs i = q ∧ q < p := by
  rw [cl_iso cs k h] at hc
  obtain ⟨b, hb, hh⟩ := closesL_on cs 1 (k + 1) p (i - (k + 1)) (by omega) hc (by omega)
  rw [show k + 1 + (i - (k + 1)) = i from by omega] at hh
  have hil := isoAt_lt hi
  have h22 : ¬ cs.getD i 0 = 22 := fun e => by rw [isoAt, iso_22 _ e] at hi; cases hi
  rw [closesL_step cs b i hil, hi] at hh
  simp only [h22, if_false, if_true] at hh
  rw [if_neg (by omega)] at hh
  rw [cl_iso cs i hi]
  exact closesL_lt _ (b + 1) 1 (i + 1) p (by omega) (by omega) hh

/-- What stands at a place of the match. -/
def BothAt (cs : List Int) (k : Nat) (p : Nat) : Prop :=
  p < cs.length ∧ (matched cs)[p]? = some (k : Int) ∧ ((isoAt cs k = true ∧ k < p) ∨ (isoAt cs k = false ∧ cs[k]? = some 22 ∧ p < k)) ∧
  ∀ i, k < i → i < p → ∃ u, (matched cs)[i]? = some u ∧ (u = -1 ∨ ((k : Int) ≤ u ∧ u ≤ p))

theorem matched_both (cs : List Int) (k : Nat) (hk : k < cs.length) : (matched cs)[k]? = some (-1) ∨ ∃ p : Nat, (matched cs)[k]? = some (p : Int) ∧ BothAt cs k p := by
  by_cases his : isoAt cs k = true
  · obtain ⟨m1, m2⟩ := matched_iso cs k hk his
    rcases closesL_bd (cs.drop k) 0 k with hc | ⟨p, hc, _⟩
    · have hc' : cl cs k = -1 := hc
      rw [hc'] at m1; exact .inl m1
    · have hc' : cl cs k = p := hc
      obtain ⟨g1, g2, g3⟩ := cl_lt cs k p his hc'
      refine .inr ⟨p, by rw [m1, hc'], g2, m2 p hc', .inl ⟨his, g1⟩, fun i h1 h2 => ?_⟩
      by_cases hii : isoAt cs i = true
      · obtain ⟨q, hq, hqp⟩ := cl_inside cs k p i his hc' hii h1 h2
        have hiq := (cl_lt cs i q hii hq).1
        exact ⟨q, by rw [(matched_iso cs i (by omega) hii).1, hq], .inr ⟨by omega, by omega⟩⟩
      · simp only [Bool.not_eq_true] at hii
        rcases matched_rest cs i (by omega) hii with h | ⟨j, hj, hji, hcj⟩
        · exact ⟨_, h, .inl rfl⟩
        · have hm := (matched_iso cs j hj hji).2 i hcj
          have hji' := (cl_lt cs j i hji hcj).1
          refine ⟨j, hm, .inr ⟨?_, by omega⟩⟩
          rcases Nat.lt_or_ge j k with hjk | hjk
          · obtain ⟨q, hq, hqp⟩ := cl_inside cs j i k hji hcj his hjk h1
            rw [hc'] at hq; omega
          · omega
  · simp only [Bool.not_eq_true] at his
    rcases matched_rest cs k hk his with h | ⟨j, hj, hji, hcj⟩
    · exact .inl h
    · obtain ⟨m1, m2⟩ := matched_iso cs j hj hji
      obtain ⟨g1, g2, g3⟩ := cl_lt cs j k hji hcj
      exact .inr ⟨j, m2 k hcj, hj, by rw [m1, hcj], .inr ⟨his, g3, g1⟩, fun i h1 h2 => by omega⟩

end Go.Proofs.Ytgkmpndebcdigaa
