/-
  Ranges and pages, plain Lean: what a range list says of a scalar; what a block's page is.
-/
namespace Go.Proofs.Ytpipeemoikdlaaa.tr

/-- a range: from, to, and its value -/
structure G where
  lo : Int
  hi : Int
  v : Int

/-- ranges rise, and lie within all scalars -/
def Rising : Int → List G → Prop
  | _, [] => True
  | last, x :: r => last < x.lo ∧ 0 ≤ x.lo ∧ x.lo ≤ x.hi ∧ x.hi ≤ 1114111 ∧ 0 ≤ x.v ∧ x.v ≤ 255 ∧ Rising x.hi r

/-- the value of the first range that has a scalar -/
def find : List G → Int → Int → Int
  | [], _, o => o
  | x :: r, c, o => if x.lo ≤ c ∧ c ≤ x.hi then x.v else find r c o

theorem Rising.at {last : Int} {R : List G} (h : Rising last R) {k : Nat} (hk : k < R.length) :
    last < R[k].lo ∧ 0 ≤ R[k].lo ∧ R[k].lo ≤ R[k].hi ∧ R[k].hi ≤ 1114111 ∧ 0 ≤ R[k].v ∧ R[k].v ≤ 255 := by
  induction R generalizing last k with
  | nil => simp at hk
  | cons x r ih =>
    obtain ⟨h1, h2, h3, h4, h5, h6, h7⟩ := h
    cases k with
    | zero => exact ⟨h1, h2, h3, h4, h5, h6⟩
    | succ k =>
      have := ih h7 (k := k) (by simpa using hk)
      simp only [List.getElem_cons_succ]
      omega
theorem Rising.step {last : Int} {R : List G} (h : Rising last R) {k : Nat} (hk : k + 1 < R.length) : R[k].hi < R[k + 1].lo := by
  induction R generalizing last k with
  | nil => simp at hk
  | cons x r ih =>
    obtain ⟨h1, h2, h3, h4, h5, h6, h7⟩ := h
    cases k with
    | zero => exact (h7.at (k := 0) (by simpa using hk)).1
    | succ k => exact ih h7 (k := k) (by simpa using hk)
theorem Rising.lt {last : Int} {R : List G} (h : Rising last R) {i k : Nat} (hik : i < k) (hk : k < R.length) : R[i].hi < R[k].lo := by
  obtain ⟨d, rfl⟩ : ∃ d, k = i + 1 + d := ⟨k - (i + 1), by omega⟩
  induction d with
  | zero => exact h.step hk
  | succ d ih =>
    have h1 := ih (by omega) (by omega)
    have h2 := h.step (k := i + 1 + d) (by omega)
    have h3 := (h.at (k := i + 1 + d) (by omega)).2.2.1
    simp only [show i + 1 + (d + 1) = i + 1 + d + 1 from rfl]
    omega

theorem find_skip {R : List G} {c o : Int} : ∀ {k : Nat}, k ≤ R.length → (∀ i (h : i < R.length), i < k → R[i].hi < c) → find R c o = find (R.drop k) c o
  | 0, _, _ => rfl
  | k + 1, hk, h => by
    cases R with
    | nil => simp at hk
    | cons x r =>
      have h0 := h 0 (by simp) (by omega)
      simp only [List.getElem_cons_zero] at h0
      rw [find, if_neg (by omega), List.drop_succ_cons]
      exact find_skip (by simpa using hk) fun i hi hik => by
        have := h (i + 1) (by simpa using hi) (by omega)
        simpa using this
theorem find_none {R : List G} {c o : Int} (h : ∀ i (hi : i < R.length), c < R[i].lo) : find R c o = o := by
  induction R with
  | nil => rfl
  | cons x r ih =>
    have h0 := h 0 (by simp)
    simp only [List.getElem_cons_zero] at h0
    rw [find, if_neg (by omega)]
    exact ih fun i hi => by
      have := h (i + 1) (by simpa using hi)
      simpa using this
/-- the k-th range is the first that does not end ahead of a scalar -/
theorem find_hit {last : Int} {R : List G} {c o : Int} {k : Nat} (_ : Rising last R) (hk : k < R.length) (h : ∀ i (hi : i < R.length), i < k → R[i].hi < c) (h1 : R[k].lo ≤ c) (h2 : c ≤ R[k].hi) : find R c o = R[k].v := by
  rw [find_skip (Nat.le_of_lt hk) h, List.drop_eq_getElem_cons hk, find, if_pos ⟨h1, h2⟩]
theorem find_miss {last : Int} {R : List G} {c o : Int} {k : Nat} (hr : Rising last R) (hk : k ≤ R.length) (h : ∀ i (hi : i < R.length), i < k → R[i].hi < c) (h1 : ∀ hk : k < R.length, c < R[k].lo) : find R c o = o := by
  rw [find_skip hk h]
  refine find_none fun i hi => ?_
  have hi' : k + i < R.length := by simp at hi; omega
  rw [List.getElem_drop]
  rcases Nat.eq_zero_or_pos i with rfl | h0
  · exact h1 (by omega)
  · have h2 := h1 (by omega)
    have h3 := hr.lt (i := k) (k := k + i) (by omega) hi'
    have h4 := (hr.at (k := k) (by omega)).2.2.1
    omega
theorem find_range {last : Int} {R : List G} {c o : Int} (hr : Rising last R) (ho : 0 ≤ o ∧ o ≤ 255) : 0 ≤ find R c o ∧ find R c o ≤ 255 := by
  induction R generalizing last with
  | nil => exact ho
  | cons x r ih =>
    obtain ⟨h1, h2, h3, h4, h5, h6, h7⟩ := hr
    rw [find]
    split
    · exact ⟨h5, h6⟩
    · exact ih h7

/-- a block's page -/
def pageAt (R : List G) (o a : Int) : List Int := (List.range 128).map fun (i : Nat) => find R (a + (i : Int)) o
theorem pageAt_length (R : List G) (o a : Int) : (pageAt R o a).length = 128 := by simp [pageAt]
theorem pageAt_get (R : List G) (o a : Int) (i : Nat) (h : i < 128) : (pageAt R o a)[i]? = some (find R (a + (i : Int)) o) := by simp [pageAt, h]

/-- what 'whole' says of a block: its one value -/
def wholeOf (R : List G) (k : Nat) (a o : Int) : Option Int :=
  match R[k]? with
  | none => some o
  | some x => if a + 128 ≤ x.lo then some o else if x.lo ≤ a ∧ a + 127 ≤ x.hi then some x.v else none
theorem pageAt_whole {last : Int} {R : List G} {o a v : Int} {k : Nat} (hr : Rising last R) (hk : k ≤ R.length) (h : ∀ i (hi : i < R.length), i < k → R[i].hi < a) (hw : wholeOf R k a o = some v) : pageAt R o a = List.replicate 128 v := by
  apply List.ext_getElem?
  intro i
  by_cases hi : i < 128
  · rw [pageAt_get _ _ _ _ hi, List.getElem?_replicate, if_pos hi]
    congr 1
    have hs : ∀ i' (hi' : i' < R.length), i' < k → R[i'].hi < a + (i : Int) := fun i' hi' hk' => by have := h i' hi' hk'; omega
    unfold wholeOf at hw
    by_cases hkl : k < R.length
    · rw [List.getElem?_eq_getElem hkl] at hw
      simp only at hw
      split at hw
      · injection hw with hw
        rw [← hw]
        exact find_miss hr hk hs fun _ => by omega
      · split at hw
        · injection hw with hw
          rw [← hw]
          exact find_hit hr hkl hs (by omega) (by omega)
        · cases hw
    · rw [List.getElem?_eq_none (by omega)] at hw
      injection hw with hw
      rw [← hw]
      exact find_miss hr hk hs fun h => absurd h hkl
  · rw [List.getElem?_eq_none (by rw [pageAt_length]; omega), List.getElem?_eq_none (by simp; omega)]
theorem whole_range {last : Int} {R : List G} {o a v : Int} {k : Nat} (hr : Rising last R) (ho : 0 ≤ o ∧ o ≤ 255) (hw : wholeOf R k a o = some v) : 0 ≤ v ∧ v ≤ 255 := by
  unfold wholeOf at hw
  by_cases hkl : k < R.length
  · rw [List.getElem?_eq_getElem hkl] at hw
    simp only at hw
    have := hr.at hkl
    split at hw
    · injection hw with hw; omega
    · split at hw
      · injection hw with hw; omega
      · cases hw
  · rw [List.getElem?_eq_none (by omega)] at hw
    injection hw with hw
    omega
end Go.Proofs.Ytpipeemoikdlaaa.tr
