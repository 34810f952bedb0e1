/-
  Layer 20, plain Lean: what lbrule.Between computes.
-/
namespace Go.Proofs.Ytbobhcffbgnfkaa.lr

/-- what the rules know of all units up to a boundary -/
structure S where
  last : Int
  joined : Bool
  base : Int
  hebrew : Bool
  flags : Nat
  number : Int

def S.start : S := ⟨0, false, 0, false, 0, 0⟩

def numStep (n c : Int) : Int := if c = 27 ∨ (n = 1 ∧ (c = 26 ∨ c = 25)) then 1 else if n = 1 ∧ (c = 19 ∨ c = 20) then 2 else 0
def S.step (s : S) (c : Int) (j : Bool) : S :=
  ⟨c, j, if c = 9 then s.base else c, s.last == 2, if c = 33 then s.flags + 1 else 0, numStep s.number c⟩

def letterB (c : Int) : Bool := c == 1 || c == 2
def picB (c : Int) : Bool := c == 30 || c == 31 || c == 32
def korB (c : Int) : Bool := c == 34 || c == 35 || c == 36 || c == 37 || c == 38
def closB (c : Int) : Bool := c == 19 || c == 20
def monB (c : Int) : Bool := c == 29 || c == 28

def numericB (a n c after : Int) : Bool := ((letterB a && c == 27 || a == 27 && letterB c) || ((a == 29 && picB c || picB a && c == 28) || ((monB a && letterB c || letterB a && monB c) || ((monB a && (c == 27 || (c == 21 || c == 17) && after == 27)) || ((a == 21 || a == 17) && c == 27 || (n == 1 && c == 27 || decide (0 < n) && monB c))))))
def alikeB (a : Int) (flags : Nat) (c : Int) : Bool :=
  ((a == 34 && (c == 34 || c == 35 || c == 37 || c == 38) || ((a == 35 || a == 37) && (c == 35 || c == 36) || (a == 36 || a == 38) && c == 36)) || ((korB a && c == 28 || a == 29 && korB c) || ((letterB a && letterB c || a == 25 && letterB c) || ((letterB a || a == 27) && c == 21 || a == 20 && (letterB c || c == 27))))) || (decide (flags % 2 = 1) && c == 33 || a == 31 && c == 32)
def overB (base c : Int) : Bool := base == 21 || (base == 22 && c == 21 || (closB base && c == 18 || base == 16 && c == 16))
def hebB (a : Int) (hebrew : Bool) (c : Int) : Bool := hebrew && (a == 17 || a == 14) || a == 26 && c == 2

def spacedI (s : S) (c after : Int) : Int :=
  if c = 19 ∨ c = 20 ∨ c = 23 ∨ c = 25 ∨ c = 26 then 0
  else if overB s.base c then 0
  else if s.last = 9 then 1
  else if c = 22 ∨ s.last = 22 then 0
  else if c = 13 ∨ s.last = 13 then 1
  else if c = 14 ∨ c = 17 ∨ c = 18 ∨ s.last = 15 ∨ c = 24 then 0
  else if hebB s.last s.hebrew c then 0
  else if numericB s.last s.number c after || alikeB s.last s.flags c then 0
  else 1
def aheadI (s : S) (c after : Int) : Int :=
  if s.last = 6 ∧ c = 7 then 0
  else if s.last = 6 ∨ s.last = 5 ∨ s.last = 7 ∨ s.last = 8 then 2
  else if c = 5 ∨ c = 6 ∨ c = 7 ∨ c = 8 ∨ c = 9 ∨ c = 10 then 0
  else if s.base = 10 then 1
  else if s.joined = true ∨ c = 11 ∨ s.last = 11 ∨ s.last = 12 then 0
  else if c = 12 ∧ ¬ s.last = 9 ∧ ¬ s.last = 14 ∧ ¬ s.last = 17 then 0
  else spacedI s c after

/-- a unit: its class, and whether it is joined -/
abbrev V := Int × Bool
def stateTo (us : List V) : Nat → S
  | 0 => S.start
  | k + 1 => (stateTo us k).step (us.getD k (0, false)).1 (us.getD k (0, false)).2
def afterOf (us : List V) (k : Nat) : Int := if k + 1 < us.length then (us.getD (k + 1) (0, false)).1 else 0
def statusAt (us : List V) (k : Nat) : Int := if k = 0 then 0 else aheadI (stateTo us k) (us.getD k (0, false)).1 (afterOf us k)
def between (us : List V) : List Int := (List.range us.length).map (statusAt us)

theorem flags_le (us : List V) (k : Nat) : (stateTo us k).flags ≤ k := by
  induction k with
  | zero => exact Nat.le_refl _
  | succ k ih => simp only [stateTo, S.step]; split <;> omega

end Go.Proofs.Ytbobhcffbgnfkaa.lr
