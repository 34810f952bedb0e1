/-
  Layer 9, plain law: what stands behind a text without a PDI changes no match in it.
-/
import Derived.Test.YtgkmpndebcdigaaPlb
namespace Go.Proofs.Ytgkmpndebcdigaa

theorem closesL_none (t : List Int) (ht : ∀ c ∈ t, ¬ c = 22) (a : Int) (k : Nat) (ha : 1 ≤ a) : closesL t a k = -1 := by
  induction t generalizing a k with
  | nil => rfl
  | cons c r ih =>
    rw [closesL_cons, step_le, if_neg (ht c (by simp))]
    have hu : (0 : Int) ≤ (if iso c then 1 else 0) := by split <;> omega
    rw [if_neg (by omega)]
    exact ih (fun c hc => ht c (by simp [hc])) _ _ (by omega)

theorem closesL_append (l t : List Int) (ht : ∀ c ∈ t, ¬ c = 22) (a : Int) (k : Nat) (ha : 1 ≤ a) : closesL (l ++ t) a k = closesL l a k := by
  induction l generalizing a k with
  | nil => exact closesL_none t ht a k ha
  | cons c r ih =>
    rw [List.cons_append, closesL_cons, closesL_cons, step_le]
    by_cases h0 : a + (if iso c then 1 else 0) - (if c = 22 then 1 else 0) = 0
    · rw [if_pos h0, if_pos h0]
    · rw [if_neg h0, if_neg h0]
      refine ih _ _ ?_
      split at h0 <;> split at h0 <;> simp_all <;> omega

theorem isoAt_append {cs t : List Int} {i : Nat} (hi : i < cs.length) : isoAt (cs ++ t) i = isoAt cs i := by
  rw [isoAt, isoAt, List.getD_eq_getElem?_getD, List.getD_eq_getElem?_getD, List.getElem?_append_left hi]

theorem cl_append {cs t : List Int} (ht : ∀ c ∈ t, ¬ c = 22) {i : Nat} (hi : i < cs.length) (h : isoAt cs i = true) : cl (cs ++ t) i = cl cs i := by
  rw [cl_iso cs i h, cl_iso (cs ++ t) i (by rw [isoAt_append hi]; exact h), List.drop_append_of_le_length (by omega), closesL_append _ _ ht _ _ (by omega)]

theorem ahead_plain (cs t : List Int) (ht : ∀ c ∈ t, ¬ c = 22) (k : Nat) (hk : k < (cs ++ t).length) :
    (k < cs.length ∧ (matched (cs ++ t))[k]? = (matched cs)[k]?) ∨ (cs.length ≤ k ∧ (matched (cs ++ t))[k]? = some (-1)) := by
  have htt : ∀ p : Nat, cs.length ≤ p → ¬ (cs ++ t)[p]? = some 22 := fun p hp h => by
    rw [List.getElem?_append_right hp] at h
    exact ht _ (List.mem_of_getElem? h) rfl
  rcases Nat.lt_or_ge k cs.length with hkc | hkc
  · refine .inl ⟨hkc, ?_⟩
    by_cases his : isoAt cs k = true
    · rw [(matched_iso cs k hkc his).1, (matched_iso (cs ++ t) k hk (by rw [isoAt_append hkc]; exact his)).1, cl_append ht hkc his]
    · simp only [Bool.not_eq_true] at his
      rcases matched_rest (cs ++ t) k hk (by rw [isoAt_append hkc]; exact his) with h | ⟨j, hj, hji, hc⟩
      · rcases matched_rest cs k hkc his with h' | ⟨j, hj, hji, hc⟩
        · rw [h, h']
        · have := (matched_iso (cs ++ t) j (by simp; omega) (by rw [isoAt_append hj]; exact hji)).2 k (by rw [cl_append ht hj hji]; exact hc)
          rw [h] at this
          injection this with this
          omega
      · have hjk := (cl_lt _ j k hji hc).1
        rw [isoAt_append (by omega)] at hji
        rw [(matched_iso (cs ++ t) j hj (by rw [isoAt_append (by omega)]; exact hji)).2 k hc, (matched_iso cs j (by omega) hji).2 k (by rw [← cl_append ht (by omega) hji]; exact hc)]
  · refine .inr ⟨hkc, ?_⟩
    by_cases his : isoAt (cs ++ t) k = true
    · rw [(matched_iso (cs ++ t) k hk his).1]
      rcases closesL_bd ((cs ++ t).drop k) 0 k with h | ⟨p, h, _⟩
      · exact congrArg some h
      · have hp := cl_lt _ k p his h
        exact absurd hp.2.2 (htt p (by omega))
    · simp only [Bool.not_eq_true] at his
      rcases matched_rest (cs ++ t) k hk his with h | ⟨j, hj, hji, hc⟩
      · exact h
      · exact absurd (cl_lt _ j k hji hc).2.2 (htt k hkc)

end Go.Proofs.Ytgkmpndebcdigaa
