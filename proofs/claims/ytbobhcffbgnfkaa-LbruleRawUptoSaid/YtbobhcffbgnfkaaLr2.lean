/-
  Layer 20, plain Lean: the document's answer is what lbrule.Between computes.
-/
import Derived.Test.YtbobhcffbgnfkaaLrp
namespace Go.Proofs.Ytbobhcffbgnfkaa.lr

/-- the class of a unit -/
def cl (us : List V) (k : Nat) : Int := (us.getD k (0, false)).1
def overS (us : List V) : Nat → Int
  | 0 => -1
  | k + 1 => if cl us k = 9 then overS us k else cl us k
def numR (us : List V) : Nat → Bool
  | 0 => false
  | k + 1 => cl us k == 27 || (cl us k == 26 || cl us k == 25) && numR us k
def oddN (us : List V) : Nat → Nat
  | 0 => 0
  | k + 1 => if cl us k = 33 then oddN us k + 1 else 0

/-- rules 16 to 29, as the document has them -/
def st1 (a c : Int) : Bool := c == 14 || c == 17 || c == 18 || c == 24 || a == 15
def st2 (a c : Int) (h : Bool) : Bool := (a == 17 || a == 14) && h || a == 26 && c == 2
def st3 (a c : Int) : Bool := letterB a && c == 27 || a == 27 && letterB c || a == 29 && picB c || picB a && c == 28 || monB a && letterB c || letterB a && monB c
def st4 (a c : Int) (nx : Bool) : Bool := monB a && (c == 27 || (c == 21 || c == 17) && nx) || (a == 21 || a == 17) && c == 27
def st5 (a c : Int) (n1 n0 : Bool) : Bool := n1 && c == 27 || monB c && (n1 || (a == 19 || a == 20) && n0)
def st6 (a c : Int) : Bool := a == 34 && (c == 34 || c == 35 || c == 37 || c == 38) || (a == 35 || a == 37) && (c == 35 || c == 36) || (a == 36 || a == 38) && c == 36
def st7 (a c : Int) : Bool := korB a && c == 28 || a == 29 && korB c || (letterB a || a == 25) && letterB c || (letterB a || a == 27) && c == 21 || a == 20 && (letterB c || c == 27)
def st8 (a c : Int) (od : Bool) : Bool := c == 33 && od || a == 31 && c == 32
def staysB (a c : Int) (h nx n1 n0 od : Bool) : Bool := st1 a c || (st2 a c h || (st3 a c || (st4 a c nx || (st5 a c n1 n0 || (st6 a c || (st7 a c || st8 a c od))))))

def nextB (us : List V) (k : Nat) : Bool := decide (k + 1 < us.length) && cl us (k + 1) == 27
def hebR (us : List V) (k : Nat) : Bool := decide (2 ≤ k) && cl us (k - 2) == 2
def stays (us : List V) (k : Nat) (a c : Int) : Bool := staysB a c (hebR us k) (nextB us k) (numR us k) (numR us (k - 1)) (decide (oddN us k % 2 = 1))

def j1 (a c : Int) (jo : Bool) : Bool := jo || c == 11 || a == 11 || a == 12 || c == 12 && !(a == 9) && !(a == 14) && !(a == 17)
def j2 (b c : Int) : Bool := b == 21 || b == 22 && c == 21 || (b == 19 || b == 20) && c == 18 || b == 16 && c == 16
def m1 (a : Int) : Bool := a == 5 || a == 6 || a == 7 || a == 8
def m2 (c : Int) : Bool := c == 5 || c == 6 || c == 7 || c == 8 || c == 9 || c == 10
def m3 (c : Int) : Bool := c == 19 || c == 20 || c == 23 || c == 25 || c == 26
def refB (a c b : Int) (jo s : Bool) : Int :=
  if (a == 6 && c == 7) = true then 0 else if m1 a = true then 2 else if m2 c = true then 0 else if (b == 10) = true then 1 else if j1 a c jo = true then 0
  else if m3 c = true then 0 else if j2 b c = true then 0 else if (a == 9) = true then 1 else if (c == 22 || a == 22) = true then 0 else if (c == 13 || a == 13) = true then 1
  else if s = true then 0 else 1
/-- boustrophedonref20.Status -/
def refAt (us : List V) (k : Nat) : Int :=
  if k = 0 then 0 else refB (cl us (k - 1)) (cl us k) (overS us k) (us.getD (k - 1) (0, false)).2 (stays us k (cl us (k - 1)) (cl us k))

theorem st_succ (us : List V) (k : Nat) : stateTo us (k + 1) = (stateTo us k).step (cl us k) (us.getD k (0, false)).2 := rfl
theorem st_base (us : List V) (k : Nat) : (stateTo us k).base = overS us k ∨ ((stateTo us k).base = 0 ∧ overS us k = -1) := by
  induction k with
  | zero => exact .inr ⟨rfl, rfl⟩
  | succ k ih =>
    rw [st_succ]
    simp only [S.step, overS]
    split
    · exact ih
    · exact .inl rfl
theorem st_flags (us : List V) (k : Nat) : (stateTo us k).flags = oddN us k := by
  induction k with
  | zero => rfl
  | succ k ih =>
    rw [st_succ]
    simp only [S.step, oddN, ih]
theorem numStep_one (n c : Int) : (numStep n c == 1) = (c == 27 || (c == 26 || c == 25) && n == 1) := by
  rw [Bool.eq_iff_iff]
  simp only [numStep, beq_iff_eq, Bool.or_eq_true, Bool.and_eq_true]
  split
  · simp only [true_iff]; omega
  · split
    · omega
    · omega
theorem numStep_pos (n c : Int) : 0 < numStep n c ↔ ((c == 27 || (c == 26 || c == 25) && n == 1 || (c == 19 || c == 20) && n == 1) = true) := by
  simp only [Bool.or_eq_true, Bool.and_eq_true, beq_iff_eq]
  unfold numStep
  split
  · constructor
    · intro _; omega
    · intro _; omega
  · split
    · constructor
      · intro _; omega
      · intro _; omega
    · constructor
      · intro h; omega
      · intro h; omega
theorem st_num (us : List V) (k : Nat) : ((stateTo us k).number == 1) = numR us k := by
  induction k with
  | zero => rfl
  | succ k ih =>
    rw [st_succ]
    simp only [S.step, numR, numStep_one, ih]
theorem st_pos (us : List V) (k : Nat) : decide (0 < (stateTo us (k + 1)).number) = (numR us (k + 1) || (cl us k == 19 || cl us k == 20) && numR us k) := by
  rw [Bool.eq_iff_iff, decide_eq_true_iff]
  have h := numStep_pos (stateTo us k).number (cl us k)
  rw [st_num] at h
  exact h
theorem st_heb (us : List V) (k : Nat) : (stateTo us (k + 1)).hebrew = hebR us (k + 1) := by
  cases k with
  | zero => rfl
  | succ k =>
    rw [st_succ, st_succ]
    simp [S.step, hebR]
theorem st_next (us : List V) (k : Nat) : (afterOf us k == 27) = nextB us k := by
  unfold afterOf nextB cl
  split <;> rename_i h
  · simp [h]
  · simp [h]

theorem or_swap5 (p1 p2 p3 p4 p5 : Bool) : (p1 || p2 || p3 || p4 || p5) = (p1 || p2 || p3 || p5 || p4) := by cases p1 <;> cases p2 <;> cases p3 <;> cases p4 <;> cases p5 <;> rfl

/-- the rules of numbers: the same, by pieces -/
theorem num_pieces (a c : Int) (nx n1 n0 : Bool) (n after : Int) (e1 : (after == 27) = nx) (e2 : (n == 1) = n1) (e3 : decide (0 < n) = (n1 || (a == 19 || a == 20) && n0)) :
    (st3 a c || (st4 a c nx || st5 a c n1 n0)) = numericB a n c after := by
  unfold st3 st4 st5 numericB
  rw [e1, e2, e3]
  generalize (letterB a && c == 27) = p1
  generalize (a == 27 && letterB c) = p2
  generalize (a == 29 && picB c) = p3
  generalize (picB a && c == 28) = p4
  generalize (monB a && letterB c) = p5
  generalize (letterB a && monB c) = p6
  generalize (monB a && (c == 27 || (c == 21 || c == 17) && nx)) = p7
  generalize ((a == 21 || a == 17) && c == 27) = p8
  generalize (n1 && c == 27) = p9
  generalize ((n1 || (a == 19 || a == 20) && n0)) = p10
  rw [Bool.and_comm (monB c) p10]
  generalize (p10 && monB c) = p11
  ac_rfl
theorem alike_pieces (a c : Int) (f : Nat) : (st6 a c || (st7 a c || st8 a c (decide (f % 2 = 1)))) = alikeB a f c := by
  unfold st6 st7 st8 alikeB
  rw [Bool.and_or_distrib_right (letterB a) (a == 25) (letterB c), Bool.and_comm (c == 33)]
  generalize (a == 34 && (c == 34 || c == 35 || c == 37 || c == 38)) = p1
  generalize ((a == 35 || a == 37) && (c == 35 || c == 36)) = p2
  generalize ((a == 36 || a == 38) && c == 36) = p3
  generalize (korB a && c == 28) = p4
  generalize (a == 29 && korB c) = p5
  generalize (letterB a && letterB c) = p6
  generalize (a == 25 && letterB c) = p7
  generalize ((letterB a || a == 27) && c == 21) = p8
  generalize (a == 20 && (letterB c || c == 27)) = p9
  generalize (decide (f % 2 = 1) && c == 33) = p10
  generalize (a == 31 && c == 32) = p11
  ac_rfl
theorem stays_eq (a c n after : Int) (h n1 n0 od : Bool) (f : Nat) (nx : Bool) (e1 : (after == 27) = nx) (e2 : (n == 1) = n1) (e3 : decide (0 < n) = (n1 || (a == 19 || a == 20) && n0)) (e4 : decide (f % 2 = 1) = od) :
    staysB a c h nx n1 n0 od = ((c == 14 || c == 17 || c == 18 || a == 15 || c == 24) || (hebB a h c || (numericB a n c after || alikeB a f c))) := by
  rw [← num_pieces a c nx n1 n0 n after e1 e2 e3, ← alike_pieces a c f, e4]
  have e5 : st1 a c = (c == 14 || c == 17 || c == 18 || a == 15 || c == 24) := or_swap5 _ _ _ _ _
  have e6 : st2 a c h = hebB a h c := by
    unfold st2 hebB
    rw [Bool.and_comm h]
  rw [← e5, ← e6]
  unfold staysB
  generalize st1 a c = q1
  generalize st2 a c h = q2
  generalize st3 a c = q3
  generalize st4 a c nx = q4
  generalize st5 a c n1 n0 = q5
  generalize st6 a c = q6
  generalize st7 a c = q7
  generalize st8 a c od = q8
  ac_rfl

theorem bool_if {b : Bool} {P : Prop} [Decidable P] (h : b = true ↔ P) (x y : Int) : (if b = true then x else y) = if P then x else y := by
  by_cases hp : P
  · rw [if_pos hp, if_pos (h.2 hp)]
  · rw [if_neg hp, if_neg (fun e => hp (h.1 e))]

theorem over_eq (base b c : Int) (hb : base = b ∨ (base = 0 ∧ b = -1)) : j2 b c = overB base c := by
  rcases hb with rfl | ⟨rfl, rfl⟩
  · simp only [j2, overB, closB, Bool.or_assoc]
  · simp [j2, overB, closB]
theorem if_cong (P : Prop) [Decidable P] (x : Int) {y z : Int} (h : y = z) : (if P then x else y) = if P then x else z := by rw [h]

theorem ref_eq (s : S) (c after b : Int) (n1 n0 : Bool) (hb : s.base = b ∨ (s.base = 0 ∧ b = -1)) (e2 : (s.number == 1) = n1) (e3 : decide (0 < s.number) = (n1 || (s.last == 19 || s.last == 20) && n0)) :
    refB s.last c b s.joined (staysB s.last c s.hebrew (after == 27) n1 n0 (decide (s.flags % 2 = 1))) = aheadI s c after := by
  rw [stays_eq s.last c s.number after s.hebrew n1 n0 _ s.flags _ rfl e2 e3 rfl]
  obtain ⟨a, jo, base, he, f, n⟩ := s
  simp only at hb ⊢
  unfold refB aheadI
  have t1 : (a == 6 && c == 7) = true ↔ (a = 6 ∧ c = 7) := by simp
  have t2 : m1 a = true ↔ (a = 6 ∨ a = 5 ∨ a = 7 ∨ a = 8) := by simp [m1]; omega
  have t3 : m2 c = true ↔ (c = 5 ∨ c = 6 ∨ c = 7 ∨ c = 8 ∨ c = 9 ∨ c = 10) := by simp [m2]; omega
  have t4 : (b == 10) = true ↔ base = 10 := by simp; omega
  rw [bool_if t1, bool_if t2, bool_if t3, bool_if t4]
  by_cases q1 : a = 6 ∧ c = 7
  · rw [if_pos q1, if_pos q1]
  rw [if_neg q1, if_neg q1]
  by_cases q2 : a = 6 ∨ a = 5 ∨ a = 7 ∨ a = 8
  · rw [if_pos q2, if_pos q2]
  rw [if_neg q2, if_neg q2]
  by_cases q3 : c = 5 ∨ c = 6 ∨ c = 7 ∨ c = 8 ∨ c = 9 ∨ c = 10
  · rw [if_pos q3, if_pos q3]
  rw [if_neg q3, if_neg q3]
  by_cases q4 : base = 10
  · rw [if_pos q4, if_pos q4]
  rw [if_neg q4, if_neg q4]
  have t5 : j1 a c jo = true ↔ ((jo = true ∨ c = 11 ∨ a = 11 ∨ a = 12) ∨ (c = 12 ∧ ¬ a = 9 ∧ ¬ a = 14 ∧ ¬ a = 17)) := by simp [j1, and_assoc, or_assoc]
  rw [bool_if t5]
  by_cases q5 : jo = true ∨ c = 11 ∨ a = 11 ∨ a = 12
  · rw [if_pos (.inl q5), if_pos q5]
  rw [if_neg q5]
  by_cases q6 : c = 12 ∧ ¬ a = 9 ∧ ¬ a = 14 ∧ ¬ a = 17
  · rw [if_pos (.inr q6), if_pos q6]
  rw [if_neg (fun h => h.elim q5 q6), if_neg q6]
  unfold spacedI
  simp only
  have t7 : m3 c = true ↔ (c = 19 ∨ c = 20 ∨ c = 23 ∨ c = 25 ∨ c = 26) := by simp [m3, or_assoc]
  have t8 : j2 b c = true ↔ overB base c = true := by rw [over_eq base b c hb]
  have t9 : (a == 9) = true ↔ a = 9 := by simp
  have t10 : (c == 22 || a == 22) = true ↔ (c = 22 ∨ a = 22) := by simp
  have t11 : (c == 13 || a == 13) = true ↔ (c = 13 ∨ a = 13) := by simp
  rw [bool_if t7, bool_if t8, bool_if t9, bool_if t10, bool_if t11]
  refine if_cong _ _ (if_cong _ _ (if_cong _ _ (if_cong _ _ (if_cong _ _ ?_))))
  cases hk : (c == 14 || c == 17 || c == 18 || a == 15 || c == 24)
  · rw [if_neg (show ¬ (c = 14 ∨ c = 17 ∨ c = 18 ∨ a = 15 ∨ c = 24) from by
      intro h
      have : (c == 14 || c == 17 || c == 18 || a == 15 || c == 24) = true := by simp only [Bool.or_eq_true, beq_iff_eq]; omega
      rw [hk] at this
      cases this)]
    cases hebB a he c <;> cases numericB a n c after <;> cases alikeB a f c <;> rfl
  · rw [if_pos (show (c = 14 ∨ c = 17 ∨ c = 18 ∨ a = 15 ∨ c = 24) from by
      simp only [Bool.or_eq_true, beq_iff_eq] at hk; omega)]
    rfl

/-- each boundary's status is the document's -/
theorem ref_status (us : List V) (k : Nat) : refAt us k = statusAt us k := by
  cases k with
  | zero => rfl
  | succ k =>
    rw [refAt, statusAt, if_neg (Nat.succ_ne_zero k), if_neg (Nat.succ_ne_zero k), Nat.add_sub_cancel, stays, Nat.add_sub_cancel, ← st_next, ← st_heb, ← st_flags]
    exact ref_eq (stateTo us (k + 1)) (cl us (k + 1)) (afterOf us (k + 1)) (overS us (k + 1)) (numR us (k + 1)) (numR us k) (st_base us (k + 1)) (st_num us (k + 1)) (st_pos us k)
end Go.Proofs.Ytbobhcffbgnfkaa.lr
