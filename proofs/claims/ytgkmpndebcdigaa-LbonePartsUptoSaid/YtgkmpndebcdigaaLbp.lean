/-
  Layer 19, plain laws: what units are.
-/
import Derived.Test.YtgkmpndebcdigaaLbu
namespace Go.Proofs.Ytgkmpndebcdigaa.lb

theorem takes_cls (c : Int) : takes (cls c) = takes c := by
  unfold cls
  split
  · rename_i h; rcases h with rfl | rfl | rfl | rfl <;> rfl
  · split
    · rename_i h; subst h; rfl
    · rfl

theorem mark_takes (c : Int) (h : mark c = true) : takes c = true := by
  simp only [mark, Bool.or_eq_true, beq_iff_eq] at h
  rcases h with rfl | rfl <;> rfl

theorem seen_takes (cs ws : List Int) (k : Nat) : mark (seen cs ws k) = true → takes (cs.getD k 0) = true := by
  intro h
  rw [seen] at h
  split at h
  · rename_i h'; rw [h'.1]; rfl
  · exact mark_takes _ h
theorem seen_zwj (cs ws : List Int) (k : Nat) : (seen cs ws k == 4) = (cs.getD k 0 == 4) := by
  rw [seen]; split
  · rename_i h; rw [h.1]; rfl
  · rfl
theorem seen_cls (cs ws : List Int) (k : Nat) (h : mark (seen cs ws k) = false) : seen cs ws k = cs.getD k 0 := by
  rw [seen] at h ⊢; split at h
  · exact absurd h (by decide)
  · rename_i h'; rw [if_neg h']

/-- where the j-th unit begins -/
def ends (us : List U) (j : Nat) : Nat := if j = 0 then 0 else ((us[j - 1]?).map U.to).getD 0

/-- what is said of one unit -/
structure UnitIs (cs ws : List Int) (k : Nat) (u : U) : Prop where
  lt : u.frm < u.to
  le : u.to ≤ k
  cls : u.cls = if mark (seen cs ws u.frm) then 1 else cls (cs.getD u.frm 0)
  joined : u.joined = (cs.getD (u.to - 1) 0 == 4)
  inner : ∀ i, u.frm < i → i < u.to → mark (seen cs ws i) = true
  apart : 1 < u.to - u.frm → takes (cs.getD u.frm 0) = true

structure UnitsAre (cs ws : List Int) (k : Nat) (us : List U) : Prop where
  each : ∀ j u, us[j]? = some u → u.frm = ends us j ∧ UnitIs cs ws k u
  last : ends us us.length = k
  next : ∀ j u, us[j]? = some u → j + 1 < us.length → mark (seen cs ws u.to) = true → takes (cs.getD u.frm 0) = false

theorem UnitIs.mono {cs ws : List Int} {k : Nat} {u : U} (h : UnitIs cs ws k u) : UnitIs cs ws (k + 1) u := ⟨h.lt, by have := h.le; omega, h.cls, h.joined, h.inner, h.apart⟩

theorem UnitIs.takes_ {cs ws : List Int} {k : Nat} {u : U} (h : UnitIs cs ws k u) : takes u.cls = takes (cs.getD u.frm 0) := by
  rw [h.cls]
  cases hm : mark (seen cs ws u.frm)
  · simp [takes_cls]
  · rw [seen_takes cs ws _ hm]; rfl

theorem ends_snoc {us : List U} {u : U} {j : Nat} (hj : j ≤ us.length) : ends (us ++ [u]) j = ends us j := by
  rw [ends, ends]
  split
  · rfl
  · rw [List.getElem?_append_left (by omega)]

theorem ends_last {us : List U} {u : U} : ends (us ++ [u]) (us ++ [u]).length = u.to := by
  rw [ends, if_neg (by simp)]
  simp

theorem snoc_at {us : List U} {u v : U} {j : Nat} (h : (us ++ [u])[j]? = some v) : (j < us.length ∧ us[j]? = some v) ∨ (j = us.length ∧ v = u) := by
  by_cases hj : j < us.length
  · rw [List.getElem?_append_left hj] at h; exact .inl ⟨hj, h⟩
  · have hl := (List.getElem?_eq_some_iff.1 h).1
    simp at hl
    have : j = us.length := by omega
    subst this
    simp at h
    exact .inr ⟨rfl, h.symm⟩

theorem are_new {cs ws : List Int} {k : Nat} {us : List U} (h : UnitsAre cs ws k us) (hn : ∀ l, us.getLast? = some l → mark (seen cs ws k) = true → takes l.cls = false) :
    UnitsAre cs ws (k + 1) (us ++ [⟨k, k + 1, if mark (seen cs ws k) then 1 else cls (seen cs ws k), mark (seen cs ws k) && seen cs ws k == 4⟩]) := by
  refine ⟨?_, ends_last, ?_⟩
  · intro j v hv
    rcases snoc_at hv with ⟨hj, hv⟩ | ⟨rfl, rfl⟩
    · obtain ⟨h1, h2⟩ := h.each j v hv
      exact ⟨by rw [ends_snoc (by omega)]; exact h1, h2.mono⟩
    · refine ⟨by rw [ends_snoc (Nat.le_refl _)]; exact h.last.symm, by simp, Nat.le_refl _, ?_, ?_, fun i h1 h2 => by simp at h1 h2; omega, fun h1 => by simp at h1⟩
      · show (if mark (seen cs ws k) then (1 : Int) else cls (seen cs ws k)) = if mark (seen cs ws k) then 1 else cls (cs.getD k 0)
        cases hm : mark (seen cs ws k)
        · rw [seen_cls cs ws k hm]
        · rfl
      · show (mark (seen cs ws k) && seen cs ws k == 4) = (cs.getD k 0 == 4)
        rw [← seen_zwj cs ws k]
        generalize seen cs ws k = s
        by_cases hs : s = 4
        · subst hs; rfl
        · simp [hs]
  · intro j v hv hj hm
    rcases snoc_at hv with ⟨hj', hv⟩ | ⟨rfl, rfl⟩
    · by_cases hl : j + 1 < us.length
      · exact h.next j v hv hl hm
      · have hjl : j + 1 = us.length := by omega
        have hlast : us.getLast? = some v := by rw [List.getLast?_eq_getElem?, ← hjl]; simpa using hv
        have hto : v.to = k := by
          have := h.last
          rw [ends, if_neg (by omega), ← hjl] at this
          simpa [hv] using this
        rw [hto] at hm
        rw [← (h.each j v hv).2.takes_]
        exact hn v hlast hm
    · simp at hj

theorem are_join {cs ws : List Int} {k : Nat} {r : List U} {l : U} (h : UnitsAre cs ws k (r ++ [l])) (hm : mark (seen cs ws k) = true) (ht : takes l.cls = true) :
    UnitsAre cs ws (k + 1) (r ++ [⟨l.frm, k + 1, l.cls, seen cs ws k == 4⟩]) := by
  obtain ⟨h1, h2⟩ := h.each r.length l (by simp)
  have hto : l.to = k := by have := h.last; rw [ends_last] at this; exact this
  refine ⟨?_, ends_last, ?_⟩
  · intro j v hv
    rcases snoc_at hv with ⟨hj, hv⟩ | ⟨rfl, rfl⟩
    · obtain ⟨g1, g2⟩ := h.each j v (by rw [List.getElem?_append_left hj]; exact hv)
      exact ⟨by rw [ends_snoc (by omega)]; rw [ends_snoc (by omega)] at g1; exact g1, g2.mono⟩
    · refine ⟨by rw [ends_snoc (Nat.le_refl _)]; rw [ends_snoc (Nat.le_refl _)] at h1; exact h1, ?_, Nat.le_refl _, h2.cls, ?_, ?_, ?_⟩
      · show l.frm < k + 1
        have := h2.lt; omega
      · show (seen cs ws k == 4) = (cs.getD (k + 1 - 1) 0 == 4)
        rw [seen_zwj]; simp
      · intro i h3 h4
        have h4' : i < k + 1 := h4
        by_cases hik : i = k
        · subst hik; exact hm
        · exact h2.inner i h3 (by omega)
      · intro _
        rw [← h2.takes_]; exact ht
  · intro j v hv hj hmm
    rcases snoc_at hv with ⟨hj', hv⟩ | ⟨rfl, rfl⟩
    · exact h.next j v (by rw [List.getElem?_append_left hj']; exact hv) (by simpa using hj) hmm
    · simp at hj

theorem units_are (cs ws : List Int) (k : Nat) : UnitsAre cs ws k (unitsTo cs ws k) := by
  induction k with
  | zero => exact ⟨by simp [unitsTo], rfl, by simp [unitsTo]⟩
  | succ k ih =>
    rw [unitsTo, unitStep]
    split
    · rename_i l hl
      split
      · rename_i hmt
        simp only [Bool.and_eq_true] at hmt
        have hr : unitsTo cs ws k = (unitsTo cs ws k).dropLast ++ [l] := by
          rw [List.getLast?_eq_some_iff] at hl
          obtain ⟨ys, hys⟩ := hl
          rw [hys]; simp
        rw [hr] at ih
        exact are_join ih hmt.1 hmt.2
      · rename_i hmt
        refine are_new ih fun l' hl' hm => ?_
        rw [hl] at hl'
        injection hl' with hl'
        subst hl'
        simp only [hm, Bool.true_and, Bool.not_eq_true] at hmt
        exact hmt
    · rename_i hl
      exact are_new ih fun l' hl' _ => by rw [hl] at hl'; cases hl'

end Go.Proofs.Ytgkmpndebcdigaa.lb
