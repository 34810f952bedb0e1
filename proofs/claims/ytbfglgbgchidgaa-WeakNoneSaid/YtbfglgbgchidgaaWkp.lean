/-
  Layer 14, plain Lean: what weak.Resolve computes, list by list; that it is what the document's rules say, and what follows of it.
-/
namespace Go.Proofs.Ytbfglgbgchidgaa.wk
def isoC (c : Int) : Bool := c == 19 || c == 20 || c == 21
def strongC (c : Int) : Bool := c == 0 || c == 1 || c == 2

/-- weak.first: ahead, strong, what is left -/
def firstL : Int → Int → List Int → List Int
  | _, _, [] => []
  | ah, st, c :: r =>
    let c1 := if c = 8 then (if isoC ah || ah == 22 then 13 else ah) else c
    if strongC c1 then (if c1 = 2 then 1 else c1) :: firstL c1 c1 r
    else if c1 = 3 ∧ st = 2 then 6 :: firstL 3 st r
    else c1 :: firstL c1 st r

/-- weak.numbers, first loop: behind an element -/
def num1 : Int → List Int → List Int
  | p, c :: b :: r =>
    let c' := if (c = 4 ∧ p = 3 ∧ b = 3) ∨ (c = 7 ∧ p = b ∧ (p = 3 ∨ p = 6)) then p else c
    c' :: num1 c' (b :: r)
  | _, l => l
def num1W : List Int → List Int
  | [] => []
  | c :: r => c :: num1 c r

/-- weak.numbers, second loop: the next class that is no ET; p: the last one that was none -/
def nextNon : List Int → Int
  | [] => -1
  | c :: r => if c = 5 then nextNon r else c
def etL : Int → List Int → List Int
  | _, [] => []
  | p, c :: r => if c = 5 then (if p = 3 ∨ nextNon r = 3 then 3 else 13) :: etL p r else c :: etL c r

/-- third loop -/
def map6 (l : List Int) : List Int := l.map fun c => if c = 4 ∨ c = 7 then 13 else c

/-- weak.last -/
def lastL : Int → List Int → List Int
  | _, [] => []
  | st, c :: r => if strongC c then c :: lastL c r else if c = 3 ∧ st = 0 then 0 :: lastL st r else c :: lastL st r

def weakL (cs : List Int) (sos : Int) : List Int := lastL sos (map6 (etL (-1) (num1W (firstL sos sos cs))))

/-- the document's rules -/
def rule1L : Int → List Int → List Int
  | _, [] => []
  | ah, c :: r =>
    let c1 := if c = 8 then (if 19 ≤ ah ∧ ah ≤ 22 then 13 else ah) else c
    c1 :: rule1L c1 r
def rule2L : Int → List Int → List Int
  | _, [] => []
  | st, c :: r => (if c = 3 ∧ st = 2 then 6 else c) :: rule2L (if strongC c then c else st) r
def rule3L (l : List Int) : List Int := l.map fun c => if c = 2 then 1 else c
def rule5L : Int → List Int → List Int
  | _, [] => []
  | p, c :: r => if c = 5 then (if p = 3 ∨ nextNon r = 3 then 3 else 5) :: rule5L p r else c :: rule5L c r
def rule6L (l : List Int) : List Int := l.map fun c => if c = 4 ∨ c = 5 ∨ c = 7 then 13 else c
def rule7L : Int → List Int → List Int
  | _, [] => []
  | st, c :: r => (if c = 3 ∧ st = 0 then 0 else c) :: rule7L (if strongC c then c else st) r
def refL (cs : List Int) (sos : Int) : List Int := rule7L sos (rule6L (rule5L (-1) (num1W (rule3L (rule2L sos (rule1L sos cs))))))

theorem first_rules (cs : List Int) (ah st : Int) : firstL ah st cs = rule3L (rule2L st (rule1L ah cs)) := by
  induction cs generalizing ah st with
  | nil => rfl
  | cons c r ih =>
    have hiso : (isoC ah || ah == 22) = decide (19 ≤ ah ∧ ah ≤ 22) := by
      simp only [isoC]
      by_cases h : 19 ≤ ah ∧ ah ≤ 22
      · rcases (by omega : ah = 19 ∨ ah = 20 ∨ ah = 21 ∨ ah = 22) with rfl | rfl | rfl | rfl <;> rfl
      · have h1 : ¬ ah = 19 := by omega
        have h2 : ¬ ah = 20 := by omega
        have h3 : ¬ ah = 21 := by omega
        have h4 : ¬ ah = 22 := by omega
        simp [h1, h2, h3, h4, h]
    simp only [firstL, rule1L, rule2L, rule3L, List.map_cons, hiso, decide_eq_true_eq]
    generalize (if c = 8 then (if 19 ≤ ah ∧ ah ≤ 22 then (13 : Int) else ah) else c) = c1
    by_cases hs : strongC c1 = true
    · rw [if_pos hs, if_pos hs, ih]
      have h3 : ¬ (c1 = 3 ∧ st = 2) := fun h => by rw [h.1] at hs; exact absurd hs (by decide)
      rw [if_neg h3]; rfl
    · rw [if_neg hs, if_neg hs]
      by_cases h3 : c1 = 3 ∧ st = 2
      · rw [if_pos h3, if_pos h3, ih, h3.1]; rfl
      · rw [if_neg h3, if_neg h3, ih]
        have h2 : ¬ c1 = 2 := fun h => by rw [h] at hs; exact hs (by decide)
        rw [if_neg h2]; rfl

theorem et_rules (l : List Int) (p : Int) : map6 (etL p l) = rule6L (rule5L p l) := by
  induction l generalizing p with
  | nil => rfl
  | cons c r ih =>
    simp only [etL, rule5L]
    by_cases h : c = 5
    · rw [if_pos h, if_pos h]
      simp only [map6, rule6L, List.map_cons] at ih ⊢
      rw [ih]
      by_cases h3 : p = 3 ∨ nextNon r = 3 <;> simp [h3]
    · rw [if_neg h, if_neg h]
      simp only [map6, rule6L, List.map_cons] at ih ⊢
      rw [ih]
      congr 1
      simp [h]

theorem last_rules (l : List Int) (st : Int) : lastL st l = rule7L st l := by
  induction l generalizing st with
  | nil => rfl
  | cons c r ih =>
    simp only [lastL, rule7L]
    by_cases hs : strongC c = true
    · have h3 : ¬ (c = 3 ∧ st = 0) := fun h => by rw [h.1] at hs; exact absurd hs (by decide)
      rw [if_pos hs, if_pos hs, if_neg h3, ih]
    · rw [if_neg hs, if_neg hs]
      by_cases h3 : c = 3 ∧ st = 0
      · rw [if_pos h3, if_pos h3, ih]
      · rw [if_neg h3, if_neg h3, ih]

theorem weak_ref (cs : List Int) (sos : Int) : weakL cs sos = refL cs sos := by
  rw [weakL, refL, first_rules, et_rules, last_rules]

/-- behind an R -/
theorem first_behind (x b : List Int) (ah st : Int) : firstL ah st (x ++ 1 :: b) = firstL ah st x ++ 1 :: firstL 1 1 b := by
  induction x generalizing ah st with
  | nil => simp [firstL, strongC]
  | cons c r ih =>
    simp only [List.cons_append, firstL]
    generalize (if c = 8 then (if (isoC ah || ah == 22) = true then (13 : Int) else ah) else c) = c1
    by_cases h1 : strongC c1 = true
    · simp only [if_pos h1, ih, List.cons_append]
    · by_cases h2 : c1 = 3 ∧ st = 2
      · simp only [if_neg h1, if_pos h2, ih, List.cons_append]
      · simp only [if_neg h1, if_neg h2, ih, List.cons_append]

theorem num_one (v : List Int) : num1 1 v = num1W v := by
  match v with
  | [] => rfl
  | [c] => rfl
  | c :: b :: r =>
    simp only [num1, num1W]
    have h : ¬ ((c = 4 ∧ (1 : Int) = 3 ∧ b = 3) ∨ (c = 7 ∧ (1 : Int) = b ∧ ((1 : Int) = 3 ∨ (1 : Int) = 6))) := by omega
    rw [if_neg h]

theorem num1_behind (u v : List Int) (p : Int) : num1 p (u ++ 1 :: v) = num1 p (u ++ [1]) ++ num1W v := by
  induction u generalizing p with
  | nil =>
    match v with
    | [] => simp [num1, num1W]
    | b :: r =>
      simp only [List.nil_append, num1]
      have h : ¬ (((1 : Int) = 4 ∧ p = 3 ∧ b = 3) ∨ ((1 : Int) = 7 ∧ p = b ∧ (p = 3 ∨ p = 6))) := by omega
      rw [if_neg h, num_one]; rfl
  | cons c r ih =>
    match r with
    | [] => simp only [List.cons_append, List.nil_append, num1] at ih ⊢; rw [ih]
    | d :: r' => simp only [List.cons_append, num1] at ih ⊢; rw [ih]

theorem numW_cons (c : Int) (r : List Int) : num1W (c :: r) = c :: num1 c r := rfl
theorem numW_behind (u v : List Int) : num1W (u ++ 1 :: v) = num1W (u ++ [1]) ++ num1W v := by
  match u with
  | [] => rw [List.nil_append, List.nil_append, numW_cons, numW_cons, num_one]; rfl
  | c :: r => rw [List.cons_append, List.cons_append, numW_cons, numW_cons, num1_behind]; rfl

theorem nextNon_behind (u v : List Int) : nextNon (u ++ 1 :: v) = nextNon (u ++ [1]) := by
  induction u with
  | nil => rfl
  | cons c r ih => simp only [List.cons_append, nextNon, ih]

theorem et_p (v : List Int) (p q : Int) (hp : ¬ p = 3) (hq : ¬ q = 3) : etL p v = etL q v := by
  induction v with
  | nil => rfl
  | cons c r ih => simp only [etL, hp, hq, false_or, ih]

theorem et_behind (u v : List Int) (p : Int) : etL p (u ++ 1 :: v) = etL p (u ++ [1]) ++ etL (-1) v := by
  induction u generalizing p with
  | nil => simp only [List.nil_append, etL]; rw [et_p v 1 (-1) (by decide) (by decide)]; rfl
  | cons c r ih =>
    simp only [List.cons_append, etL]
    split
    · rw [nextNon_behind, ih]; rfl
    · rw [ih]; rfl

theorem last_behind (u v : List Int) (st : Int) : lastL st (u ++ 1 :: v) = lastL st (u ++ [1]) ++ lastL 1 v := by
  induction u generalizing st with
  | nil => simp [lastL, strongC]
  | cons c r ih =>
    simp only [List.cons_append, lastL]
    split
    · rw [ih]; rfl
    · split
      · rw [ih]; rfl
      · rw [ih]; rfl

theorem weak_parts (a b : List Int) (sos : Int) : weakL (a ++ [1] ++ b) sos = weakL (a ++ [1]) sos ++ weakL b 1 := by
  have e1 : firstL sos sos (a ++ [1] ++ b) = firstL sos sos a ++ 1 :: firstL 1 1 b := by rw [List.append_assoc]; exact first_behind a b sos sos
  have e2 : firstL sos sos (a ++ [1]) = firstL sos sos a ++ [1] := by rw [first_behind a [] sos sos]; rfl
  simp only [weakL, e1, e2]
  generalize firstL sos sos a = x
  generalize firstL 1 1 b = y
  have hx : ∃ x', num1W (x ++ [1]) = x' ++ [1] := by
    match x with
    | [] => exact ⟨[], rfl⟩
    | c :: r =>
      have h : ∀ (r : List Int) (p : Int), ∃ r', num1 p (r ++ [1]) = r' ++ [1] := by
        intro r
        induction r with
        | nil => intro p; exact ⟨[], rfl⟩
        | cons d s ih =>
          intro p
          match s with
          | [] => exact ⟨[if (d = 4 ∧ p = 3 ∧ (1 : Int) = 3) ∨ (d = 7 ∧ p = 1 ∧ (p = 3 ∨ p = 6)) then p else d], rfl⟩
          | f :: s' =>
            obtain ⟨r', hr'⟩ := ih (if (d = 4 ∧ p = 3 ∧ f = 3) ∨ (d = 7 ∧ p = f ∧ (p = 3 ∨ p = 6)) then p else d)
            refine ⟨(if (d = 4 ∧ p = 3 ∧ f = 3) ∨ (d = 7 ∧ p = f ∧ (p = 3 ∨ p = 6)) then p else d) :: r', ?_⟩
            simp only [List.cons_append, num1] at hr' ⊢
            rw [hr']
      obtain ⟨r', hr'⟩ := h r c
      exact ⟨c :: r', by simp only [List.cons_append, num1W]; rw [hr']⟩
  obtain ⟨x', hx'⟩ := hx
  rw [numW_behind, hx']
  generalize num1W y = z
  have e3 : x' ++ [1] ++ z = x' ++ 1 :: z := by simp
  rw [e3, et_behind]
  have hq : ∃ q, etL (-1) (x' ++ [1]) = q ++ [1] := by
    have h : ∀ (l : List Int) (p : Int), ∃ q, etL p (l ++ [1]) = q ++ [1] := by
      intro l
      induction l with
      | nil => intro p; exact ⟨[], by simp [etL]⟩
      | cons d s ih =>
        intro p
        simp only [List.cons_append, etL]
        split
        · obtain ⟨q, hq⟩ := ih p
          exact ⟨_ :: q, by rw [hq]; rfl⟩
        · obtain ⟨q, hq⟩ := ih d
          exact ⟨_ :: q, by rw [hq]; rfl⟩
    exact h x' (-1)
  obtain ⟨q, hq⟩ := hq
  rw [hq]
  generalize etL (-1) z = v
  have e4 : map6 (q ++ [1] ++ v) = map6 q ++ 1 :: map6 v := by simp [map6]
  have e5 : map6 (q ++ [1]) = map6 q ++ [1] := by simp [map6]
  rw [e4, e5, last_behind]

/-- no class that the rules ask -/
def calm (c : Int) : Bool := !(2 ≤ c && c ≤ 8)
theorem weak_calm (cs : List Int) (sos : Int) (h : ∀ c ∈ cs, calm c = true) : weakL cs sos = cs := by
  have hc : ∀ c, calm c = true → ¬ c = 2 ∧ ¬ c = 3 ∧ ¬ c = 4 ∧ ¬ c = 5 ∧ ¬ c = 6 ∧ ¬ c = 7 ∧ ¬ c = 8 := by
    intro c h
    simp only [calm, Bool.not_eq_true', Bool.and_eq_false_iff, decide_eq_false_iff_not] at h
    omega
  have h1 : ∀ (l : List Int), (∀ c ∈ l, calm c = true) → ∀ ah st, firstL ah st l = l := by
    intro l
    induction l with
    | nil => intro _ _ _; rfl
    | cons c r ih =>
      intro hl ah st
      obtain ⟨a2, a3, a4, a5, a6, a7, a8⟩ := hc c (hl c (by simp))
      have hr := ih (fun c hc => hl c (by simp [hc]))
      simp only [firstL, if_neg a8, if_neg a2, a3, false_and, if_false, hr]
      split <;> rfl
  have h2 : ∀ (l : List Int), (∀ c ∈ l, calm c = true) → ∀ p, num1 p l = l := by
    intro l
    induction l with
    | nil => intro _ _; rfl
    | cons c r ih =>
      intro hl p
      obtain ⟨a2, a3, a4, a5, a6, a7, a8⟩ := hc c (hl c (by simp))
      match r with
      | [] => rfl
      | b :: r' =>
        simp only [num1, a4, a7, false_and, or_self, if_false]
        rw [ih (fun c hc => hl c (by simp [hc]))]
  have h3 : ∀ (l : List Int), (∀ c ∈ l, calm c = true) → ∀ p, etL p l = l := by
    intro l
    induction l with
    | nil => intro _ _; rfl
    | cons c r ih =>
      intro hl p
      obtain ⟨a2, a3, a4, a5, a6, a7, a8⟩ := hc c (hl c (by simp))
      simp only [etL, if_neg a5]
      rw [ih (fun c hc => hl c (by simp [hc]))]
  have h4 : ∀ (l : List Int), (∀ c ∈ l, calm c = true) → map6 l = l := by
    intro l
    induction l with
    | nil => intro _; rfl
    | cons c r ih =>
      intro hl
      obtain ⟨a2, a3, a4, a5, a6, a7, a8⟩ := hc c (hl c (by simp))
      have hr := ih (fun c hc => hl c (by simp [hc]))
      simp only [map6, List.map_cons] at hr ⊢
      rw [hr]; simp [a4, a7]
  have h5 : ∀ (l : List Int), (∀ c ∈ l, calm c = true) → ∀ st, lastL st l = l := by
    intro l
    induction l with
    | nil => intro _ _; rfl
    | cons c r ih =>
      intro hl st
      obtain ⟨a2, a3, a4, a5, a6, a7, a8⟩ := hc c (hl c (by simp))
      have hr := ih (fun c hc => hl c (by simp [hc]))
      simp only [lastL, a3, false_and, if_false, hr]
      split <;> rfl
  have h2' : num1W cs = cs := by
    cases cs with
    | nil => rfl
    | cons c r => simp only [num1W]; rw [h2 r (fun c hc => h c (by simp [hc]))]
  rw [weakL, h1 cs h, h2', h3 cs h, h4 cs h, h5 cs h]

/-- two lists, element by element -/
inductive Pw (R : Int → Int → Prop) : List Int → List Int → Prop
  | nil : Pw R [] []
  | cons {c o : Int} {cs os : List Int} : R c o → Pw R cs os → Pw R (c :: cs) (o :: os)

theorem Pw.length {R : Int → Int → Prop} {a b : List Int} (h : Pw R a b) : a.length = b.length := by
  induction h with
  | nil => rfl
  | cons _ _ ih => simp [ih]
theorem Pw.at_ {R : Int → Int → Prop} {a b : List Int} (h : Pw R a b) (k : Nat) (ha : k < a.length) (hb : k < b.length) : R a[k] b[k] := by
  induction h generalizing k with
  | nil => simp at ha
  | cons hr _ ih =>
    cases k with
    | zero => exact hr
    | succ k => exact ih k (by simpa using ha) (by simpa using hb)
theorem Pw.comp {R S T : Int → Int → Prop} {a b c : List Int} (h : Pw R a b) (g : Pw S b c) (hT : ∀ x y z, R x y → S y z → T x z) : Pw T a c := by
  induction h generalizing c with
  | nil => cases g; exact .nil
  | cons hr _ ih => cases g with
    | cons hs g => exact .cons (hT _ _ _ hr hs) (ih g)

theorem first_pw (cs : List Int) (ah st : Int) (ha : ¬ ah = 8) : Pw (fun c o => ((c = 0 ∨ c = 1 ∨ 8 < c) → o = c) ∧ (c = 2 → o = 1) ∧ ¬ o = 2 ∧ ¬ o = 8) cs (firstL ah st cs) := by
  induction cs generalizing ah st with
  | nil => exact .nil
  | cons c r ih =>
    simp only [firstL]
    have h1 : ∃ c1, (if c = 8 then (if (isoC ah || ah == 22) = true then (13 : Int) else ah) else c) = c1 ∧ ¬ c1 = 8 ∧ (c ≠ 8 → c1 = c) := by
      refine ⟨_, rfl, ?_, ?_⟩
      · split
        · split <;> omega
        · assumption
      · intro h; rw [if_neg h]
    obtain ⟨c1, e, h8, hc⟩ := h1
    rw [e]
    by_cases hs : strongC c1 = true
    · rw [if_pos hs]
      refine .cons ?_ (ih _ _ h8)
      simp only [strongC, Bool.or_eq_true, beq_iff_eq] at hs
      split <;> omega
    · rw [if_neg hs]
      have h2 : ¬ c1 = 2 := fun h => hs (by rw [h]; rfl)
      by_cases h3 : c1 = 3 ∧ st = 2
      · rw [if_pos h3]
        exact .cons (by omega) (ih _ _ (by decide))
      · rw [if_neg h3]
        exact .cons (by omega) (ih _ _ h8)

theorem num_pw (l : List Int) (p : Int) : Pw (fun c o => (¬ c = 4 → ¬ c = 7 → o = c) ∧ (o = c ∨ o = 3 ∨ o = 6)) l (num1 p l) := by
  induction l generalizing p with
  | nil => exact .nil
  | cons c r ih =>
    match r with
    | [] => exact .cons (by simp) .nil
    | b :: r' =>
      simp only [num1]
      refine .cons ?_ (ih _)
      split <;> omega
theorem numW_pw (l : List Int) : Pw (fun c o => (¬ c = 4 → ¬ c = 7 → o = c) ∧ (o = c ∨ o = 3 ∨ o = 6)) l (num1W l) := by
  cases l with
  | nil => exact .nil
  | cons c r => exact .cons (by simp) (num_pw r c)
theorem et_pw (l : List Int) (p : Int) : Pw (fun c o => (¬ c = 5 → o = c) ∧ (c = 5 → o = 3 ∨ o = 13)) l (etL p l) := by
  induction l generalizing p with
  | nil => exact .nil
  | cons c r ih =>
    simp only [etL]
    split
    · refine .cons ?_ (ih _)
      split <;> omega
    · exact .cons (by omega) (ih _)
theorem map6_pw (l : List Int) : Pw (fun c o => (¬ c = 4 → ¬ c = 7 → o = c) ∧ ((c = 4 ∨ c = 7) → o = 13)) l (map6 l) := by
  induction l with
  | nil => exact .nil
  | cons c r ih =>
    refine .cons ?_ ih
    dsimp only
    split <;> omega
theorem last_pw (l : List Int) (st : Int) : Pw (fun c o => (¬ c = 3 → o = c) ∧ (c = 3 → o = 3 ∨ o = 0)) l (lastL st l) := by
  induction l generalizing st with
  | nil => exact .nil
  | cons c r ih =>
    simp only [lastL]
    split
    · exact .cons (by omega) (ih _)
    · split
      · exact .cons (by omega) (ih _)
      · exact .cons (by omega) (ih _)

/-- what is said of one class and of what has become of it -/
def noneR (c o : Int) : Prop := ((c = 0 ∨ c = 1 ∨ 8 < c) → o = c) ∧ (c = 2 → o = 1) ∧ ¬ o = 2 ∧ ¬ o = 8 ∧ ¬ o = 4 ∧ ¬ o = 5 ∧ ¬ o = 7
theorem weak_none (cs : List Int) (sos : Int) (h : ¬ sos = 8) : Pw noneR cs (weakL cs sos) := by
  have h1 := first_pw cs sos sos h
  have h2 := h1.comp (T := fun c o => ((c = 0 ∨ c = 1 ∨ 8 < c) → o = c) ∧ (c = 2 → o = 1) ∧ ¬ o = 2 ∧ ¬ o = 8) (numW_pw _) (fun x y z hx hy => by omega)
  have h3 := h2.comp (T := fun c o => ((c = 0 ∨ c = 1 ∨ 8 < c) → o = c) ∧ (c = 2 → o = 1) ∧ ¬ o = 2 ∧ ¬ o = 8 ∧ ¬ o = 5) (et_pw _ (-1)) (fun x y z hx hy => by omega)
  have h4 := h3.comp (T := noneR) (map6_pw _) (fun x y z hx hy => by unfold noneR; omega)
  exact h4.comp (last_pw _ sos) (fun x y z hx hy => by unfold noneR at *; omega)

/-- neither EN nor AN -/
def noNum (l : List Int) : Prop := ∀ c ∈ l, ¬ c = 3 ∧ ¬ c = 6
theorem noNum_cons {c : Int} {r : List Int} : noNum (c :: r) ↔ (¬ c = 3 ∧ ¬ c = 6) ∧ noNum r := by simp [noNum]
theorem first_noNum (cs : List Int) (ah st : Int) (ha : ¬ ah = 3 ∧ ¬ ah = 6) (h : noNum cs) : noNum (firstL ah st cs) := by
  induction cs generalizing ah st with
  | nil => exact h
  | cons c r ih =>
    obtain ⟨hc, hr⟩ := noNum_cons.1 h
    simp only [firstL]
    have h1 : ∃ c1, (if c = 8 then (if (isoC ah || ah == 22) = true then (13 : Int) else ah) else c) = c1 ∧ ¬ c1 = 3 ∧ ¬ c1 = 6 := by
      refine ⟨_, rfl, ?_⟩
      split
      · split <;> omega
      · exact hc
    obtain ⟨c1, e, h3⟩ := h1
    rw [e]
    split
    · exact noNum_cons.2 ⟨by split <;> omega, ih _ _ h3 hr⟩
    · rw [if_neg (by omega)]
      exact noNum_cons.2 ⟨h3, ih _ _ h3 hr⟩
theorem num_noNum (l : List Int) (p : Int) (hp : ¬ p = 3 ∧ ¬ p = 6) (h : noNum l) : num1 p l = l := by
  induction l generalizing p with
  | nil => rfl
  | cons c r ih =>
    obtain ⟨hc, hr⟩ := noNum_cons.1 h
    match r with
    | [] => rfl
    | b :: r' =>
      simp only [num1]
      rw [if_neg (by omega), ih c hc hr]
theorem et_noNum (l : List Int) (p : Int) (hp : ¬ p = 3) (h : noNum l) : noNum (etL p l) := by
  have hn : ∀ l : List Int, noNum l → ¬ nextNon l = 3 := by
    intro l
    induction l with
    | nil => intro _; decide
    | cons c r ih =>
      intro h
      obtain ⟨hc, hr⟩ := noNum_cons.1 h
      simp only [nextNon]
      split
      · exact ih hr
      · exact hc.1
  induction l generalizing p with
  | nil => exact h
  | cons c r ih =>
    obtain ⟨hc, hr⟩ := noNum_cons.1 h
    simp only [etL]
    split
    · refine noNum_cons.2 ⟨?_, ih p hp hr⟩
      rw [if_neg (by have := hn r hr; omega)]; decide
    · exact noNum_cons.2 ⟨hc, ih c hc.1 hr⟩
theorem weak_noNum (cs : List Int) (sos : Int) (hs : ¬ sos = 3 ∧ ¬ sos = 6) (h : noNum cs) : noNum (weakL cs sos) := by
  have h1 := first_noNum cs sos sos hs h
  have h2 : noNum (num1W (firstL sos sos cs)) := by
    generalize firstL sos sos cs = l at *
    cases l with
    | nil => exact h1
    | cons c r =>
      obtain ⟨hc, hr⟩ := noNum_cons.1 h1
      rw [numW_cons, num_noNum r c hc hr]; exact h1
  have h3 := et_noNum _ (-1) (by decide) h2
  have h4 : noNum (map6 (etL (-1) (num1W (firstL sos sos cs)))) := by
    intro c hc
    simp only [map6, List.mem_map] at hc
    obtain ⟨x, hx, rfl⟩ := hc
    have := h3 x hx
    split <;> omega
  have h5 : ∀ (l : List Int) (st : Int), noNum l → noNum (lastL st l) := by
    intro l
    induction l with
    | nil => intro _ h; exact h
    | cons c r ih =>
      intro st h
      obtain ⟨hc, hr⟩ := noNum_cons.1 h
      simp only [lastL]
      split
      · exact noNum_cons.2 ⟨hc, ih _ hr⟩
      · rw [if_neg (by omega)]; exact noNum_cons.2 ⟨hc, ih _ hr⟩
  exact h5 _ sos h4

theorem weak_twice (cs : List Int) (sos : Int) (hs : sos = 0 ∨ sos = 1) (h : noNum cs) : weakL (weakL cs sos) sos = weakL cs sos := by
  have h1 := weak_none cs sos (by omega)
  have h2 := weak_noNum cs sos (by omega) h
  refine weak_calm _ sos fun c hc => ?_
  obtain ⟨k, hk, rfl⟩ := List.getElem_of_mem hc
  have h3 := h1.at_ k (by rw [h1.length]; exact hk) hk
  have h4 := h2 _ hc
  generalize (weakL cs sos)[k] = o at *
  unfold noneR at h3
  simp only [calm, Bool.not_eq_true', Bool.and_eq_false_iff, decide_eq_false_iff_not]
  omega

/-- what the first loop of weak.numbers keeps -/
def Inv1 (cs : List Int) (k : Nat) (cur : List Int) : Prop :=
  (cs = [] ∧ cur = []) ∨ ∃ d p, d.length + 1 = k ∧ cur = d ++ p :: cs.drop k ∧ num1W cs = d ++ p :: num1 p (cs.drop k)
def cond1 (p c b : Int) : Prop := (c = 4 ∧ p = 3 ∧ b = 3) ∨ (c = 7 ∧ p = b ∧ (p = 3 ∨ p = 6))
instance (p c b : Int) : Decidable (cond1 p c b) := inferInstanceAs (Decidable ((c = 4 ∧ p = 3 ∧ b = 3) ∨ (c = 7 ∧ p = b ∧ (p = 3 ∨ p = 6))))
theorem inv1_start (cs : List Int) : Inv1 cs 1 cs := by
  cases cs with
  | nil => exact .inl ⟨rfl, rfl⟩
  | cons c r => exact .inr ⟨[], c, rfl, rfl, rfl⟩
theorem inv1_shape {cs cur : List Int} {k : Nat} (h : Inv1 cs k cur) (hk : k + 1 < cs.length) (j : Nat) (hj : k = j + 1) :
    ∃ p c b, cur[j]? = some p ∧ cur[k]? = some c ∧ cur[k + 1]? = some b ∧ (cond1 p c b → Inv1 cs (k + 1) (cur.set k p)) ∧ (¬ cond1 p c b → Inv1 cs (k + 1) cur) := by
  rcases h with ⟨rfl, _⟩ | ⟨d, p, hd, rfl, hn⟩
  · simp at hk
  have hdj : d.length = j := by omega
  subst hj
  have e1 := List.drop_eq_getElem_cons (show j + 1 < cs.length by omega)
  have e2 := List.drop_eq_getElem_cons hk
  generalize cs[j + 1] = c at *
  generalize cs[j + 1 + 1] = b at *
  have e3 : num1 p (cs.drop (j + 1)) = (if cond1 p c b then p else c) :: num1 (if cond1 p c b then p else c) (cs.drop (j + 1 + 1)) := by
    rw [e1, e2]; rfl
  rw [e3] at hn
  refine ⟨p, c, b, by rw [← hdj]; simp, ?_, ?_, ?_, ?_⟩
  · rw [e1, List.getElem?_append_right (by omega), show j + 1 - d.length = 1 from by omega]; rfl
  · rw [e1, e2, List.getElem?_append_right (by omega), show j + 1 + 1 - d.length = 2 from by omega]; rfl
  · intro hc
    rw [if_pos hc] at hn
    right
    refine ⟨d ++ [p], p, by simp; omega, ?_, by rw [hn]; simp⟩
    rw [e1, List.set_append, if_neg (by omega), show j + 1 - d.length = 1 from by omega]
    simp
  · intro hc
    rw [if_neg hc] at hn
    right
    exact ⟨d ++ [p], c, by simp; omega, by rw [e1]; simp, by rw [hn]; simp⟩
theorem inv1_end {cs cur : List Int} {k : Nat} (h : Inv1 cs k cur) (hk : cs.length ≤ k + 1) : cur = num1W cs := by
  rcases h with ⟨rfl, rfl⟩ | ⟨d, p, hd, rfl, hn⟩
  · rfl
  · rw [hn]
    have hl : (cs.drop k).length ≤ 1 := by simp; omega
    generalize cs.drop k = l at *
    match l, hl with
    | [], _ => rfl
    | [c], _ => rfl

/-- q stores of t from k on -/
def setN (l : List Int) (k : Nat) (t : Int) : Nat → List Int
  | 0 => l
  | q + 1 => (setN l k t q).set (k + q) t
theorem setN_is (d r : List Int) (m : Nat) (x t : Int) (q : Nat) (hq : q ≤ m) : setN (d ++ List.replicate m x ++ r) d.length t q = d ++ (List.replicate q t ++ List.replicate (m - q) x) ++ r := by
  induction q with
  | zero => simp [setN]
  | succ q ih =>
    rw [setN, ih (by omega), List.append_assoc, List.append_assoc, List.set_append, if_neg (by omega), show d.length + q - d.length = q from by omega, show m - q = (m - (q + 1)) + 1 from by omega,
      List.replicate_succ, List.replicate_succ' (n := q), List.set_append, if_neg (by simp)]
    simp

/-- what the second loop keeps -/
def Inv2 (l : List Int) (k : Nat) (cur : List Int) : Prop :=
  ∃ d p, d.length = k ∧ cur = d ++ l.drop k ∧ etL (-1) l = d ++ etL p (l.drop k) ∧ (∀ r, l.drop k = 5 :: r → (d = [] ∧ p = -1) ∨ d.getLast? = some p)
theorem inv2_start (l : List Int) : Inv2 l 0 l := ⟨[], -1, rfl, rfl, rfl, fun _ _ => .inl ⟨rfl, rfl⟩⟩

theorem fives (l : List Int) : ∃ m r, l = List.replicate m 5 ++ r ∧ (∀ x s, r = x :: s → ¬ x = 5) := by
  induction l with
  | nil => exact ⟨0, [], rfl, fun _ _ h => by cases h⟩
  | cons c l ih =>
    obtain ⟨m, r, e, hr⟩ := ih
    by_cases hc : c = 5
    · exact ⟨m + 1, r, by rw [hc, e, List.replicate_succ]; rfl, hr⟩
    · exact ⟨0, c :: l, rfl, fun x s h => by injection h with h _; rw [← h]; exact hc⟩
theorem nextNon_fives (m : Nat) (r : List Int) (hr : ∀ x s, r = x :: s → ¬ x = 5) : nextNon (List.replicate m 5 ++ r) = r.headD (-1) := by
  induction m with
  | zero =>
    match r, hr with
    | [], _ => rfl
    | x :: s, hr => simp only [List.replicate_zero, List.nil_append, nextNon]; rw [if_neg (hr x s rfl)]; rfl
  | succ m ih => rw [List.replicate_succ, List.cons_append, nextNon, if_pos rfl, ih]
theorem et_fives (m : Nat) (r : List Int) (p : Int) (hr : ∀ x s, r = x :: s → ¬ x = 5) :
    etL p (List.replicate m 5 ++ r) = List.replicate m (if p = 3 ∨ r.headD (-1) = 3 then 3 else 13) ++ etL p r := by
  induction m with
  | zero => rfl
  | succ m ih => rw [List.replicate_succ, List.cons_append, etL, if_pos rfl, ih, nextNon_fives m r hr]; rfl

def toOf (cur : List Int) (k e : Nat) : Int := if (0 < k ∧ cur[k - 1]? = some 3) ∨ cur[e]? = some 3 then 3 else 13
theorem inv2_shape {l cur : List Int} {k : Nat} (h : Inv2 l k cur) (hk : k < l.length) :
    ∃ c, cur[k]? = some c ∧ (¬ c = 5 → Inv2 l (k + 1) cur) ∧ (c = 5 → ∃ m, 0 < m ∧ k + m ≤ l.length ∧ (∀ q, q < m → cur[k + q]? = some 5) ∧ (∀ x, cur[k + m]? = some x → ¬ x = 5) ∧
      Inv2 l (k + m) (setN cur k (toOf cur k (k + m)) m)) := by
  obtain ⟨d, p, hd, rfl, he, hp⟩ := h
  have e1 := List.drop_eq_getElem_cons hk
  refine ⟨l[k], ?_, ?_, ?_⟩
  · rw [List.getElem?_append_right (by omega), e1, show k - d.length = 0 from by omega]; rfl
  · intro hc
    rw [e1] at he
    rw [etL, if_neg hc] at he
    exact ⟨d ++ [l[k]], l[k], by simp [hd], by rw [e1]; simp, by rw [he]; simp, fun _ _ => .inr (by simp)⟩
  · intro hc
    have hp' := hp (l.drop (k + 1)) (by rw [e1, hc])
    obtain ⟨m, r, e, hr⟩ := fives (l.drop k)
    have hm : 0 < m := by
      rcases Nat.eq_zero_or_pos m with h0 | h0
      · subst h0
        rw [List.replicate_zero, List.nil_append, e1, hc] at e
        exact absurd rfl (hr 5 _ e.symm)
      · exact h0
    have hl : m + r.length = l.length - k := by
      have := congrArg List.length e
      simp at this; omega
    have hdr : l.drop (k + m) = r := by rw [← List.drop_drop, e, List.drop_append_of_le_length (by simp)]; simp
    have hat : (d ++ l.drop k)[k + m]? = r[0]? := by
      rw [e, List.getElem?_append_right (by omega), show k + m - d.length = m from by omega, List.getElem?_append_right (by simp)]; simp
    refine ⟨m, hm, by omega, ?_, ?_, ?_⟩
    · intro q hq
      rw [e, List.getElem?_append_right (by omega), show k + q - d.length = q from by omega, List.getElem?_append_left (by simpa using hq), List.getElem?_replicate, if_pos hq]
    · intro x hx
      rw [hat] at hx
      match r, hx with
      | y :: s, hx => simp at hx; subst hx; exact hr y s rfl
    · have ht : (if p = 3 ∨ r.headD (-1) = 3 then (3 : Int) else 13) = toOf (d ++ l.drop k) k (k + m) := by
        rw [toOf, hat]
        have h1 : (r[0]? = some 3) ↔ (r.headD (-1) = 3) := by cases r <;> simp
        have h2 : (0 < k ∧ (d ++ l.drop k)[k - 1]? = some 3) ↔ p = 3 := by
          rcases hp' with ⟨rfl, rfl⟩ | hlast
          · simp at hd; subst hd; simp
          · have hd0 : d ≠ [] := by intro h; rw [h] at hlast; simp at hlast
            have hk0 : 0 < k := by rw [← hd]; exact List.length_pos_iff.2 hd0
            rw [List.getElem?_append_left (by omega), ← hd, ← List.getLast?_eq_getElem?, hlast, hd]
            simp [hk0]
        simp only [h1, h2]
      rw [← ht]
      have hs : setN (d ++ l.drop k) k (if p = 3 ∨ r.headD (-1) = 3 then 3 else 13) m = d ++ List.replicate m (if p = 3 ∨ r.headD (-1) = 3 then 3 else 13) ++ r := by
        rw [e, ← List.append_assoc, ← hd, setN_is d r m 5 _ m (Nat.le_refl _)]; simp
      rw [hs]
      refine ⟨d ++ List.replicate m (if p = 3 ∨ r.headD (-1) = 3 then 3 else 13), p, by simp [hd], by rw [hdr], ?_, ?_⟩
      · rw [he, hdr, e, et_fives m r p hr]; simp
      · intro r' h'
        rw [hdr] at h'
        exact absurd rfl (hr 5 r' h')
theorem inv2_end {l cur : List Int} {k : Nat} (h : Inv2 l k cur) (hk : l.length ≤ k) : cur = etL (-1) l := by
  obtain ⟨d, p, _, rfl, he, _⟩ := h
  rw [he, List.drop_eq_nil_of_le hk]; rfl
theorem inv2_len {l cur : List Int} {k : Nat} (h : Inv2 l k cur) (hk : k ≤ l.length) : cur.length = l.length := by
  obtain ⟨d, p, hd, rfl, _, _⟩ := h
  simp; omega
theorem setN_len (l : List Int) (k : Nat) (t : Int) (q : Nat) : (setN l k t q).length = l.length := by
  induction q with
  | zero => rfl
  | succ q ih => simp [setN, ih]

theorem inv1_shape' {cs cur : List Int} {k : Nat} (h : Inv1 cs k cur) (hk : k < cs.length) (j : Nat) (hj : k = j + 1) :
    ∃ p c b, cur[j]? = some p ∧ cur[k]? = some c ∧ ((k + 1 = cs.length ∧ b = -1) ∨ cur[k + 1]? = some b) ∧ (cond1 p c b → Inv1 cs (k + 1) (cur.set k p)) ∧ (¬ cond1 p c b → Inv1 cs (k + 1) cur) := by
  by_cases hl : k + 1 < cs.length
  · obtain ⟨p, c, b, h1, h2, h3, h4, h5⟩ := inv1_shape h hl j hj
    exact ⟨p, c, b, h1, h2, .inr h3, h4, h5⟩
  · rcases h with ⟨rfl, _⟩ | ⟨d, p, hd, rfl, hn⟩
    · simp at hk
    have hdj : d.length = j := by omega
    subst hj
    have e1 := List.drop_eq_getElem_cons hk
    have e2 : cs.drop (j + 1 + 1) = [] := List.drop_eq_nil_of_le (by omega)
    rw [e2] at e1
    generalize cs[j + 1] = c at *
    rw [e1] at hn ⊢
    refine ⟨p, c, -1, by rw [← hdj]; simp, ?_, .inl ⟨by omega, rfl⟩, ?_, ?_⟩
    · rw [List.getElem?_append_right (by omega), show j + 1 - d.length = 1 from by omega]; rfl
    · intro hc
      unfold cond1 at hc
      omega
    · intro _
      right
      exact ⟨d ++ [p], c, by simp; omega, by rw [e2]; simp, by rw [hn, e2]; simp [num1]⟩

/-- the last class ahead of a place that is no ET -/
def prevN (cs : List Int) : Nat → Int
  | 0 => -1
  | k + 1 => if cs.getD k 0 = 5 then prevN cs k else cs.getD k 0
theorem rule5_step (p x : Int) (r : List Int) : rule5L p (x :: r) = (if x = 5 then (if p = 3 ∨ nextNon r = 3 then 3 else 5) else x) :: rule5L (if x = 5 then p else x) r := by
  simp only [rule5L]
  split <;> rfl

end Go.Proofs.Ytbfglgbgchidgaa.wk
