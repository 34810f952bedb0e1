/-
  Layer 9: what isolate.Match computes, in plain Lean; its contract over the program.
-/
import Derived.Test.YtgkmpndebcdigaaCls
import Derived.WalkSmall
import Derived.Outline
namespace Go.Proofs.Ytgkmpndebcdigaa
open Go.RowKit

/-- bidic.Isolate -/
def iso (c : Int) : Bool := c == 19 || c == 20 || c == 21

theorem isolate_any (c : Int) (w : World) : Calls Try.prog 17 #[.int .u8 c] w fun e w' => e = .returned (.bool (iso c)) ∧ w = w' := by
  go_enter Try.func17, Try.ntmps17
  go_wp2
  all_goals go_ret
  all_goals (refine ⟨?_, rfl⟩; simp_all [iso])

/-- The state of isolate.Match behind a round: what has been written, and the places that are open. -/
def matchStep (k : Nat) (c : Int) (st : List Int × List Nat) : List Int × List Nat :=
  let out := st.1.set k (-1)
  if iso c then (out, st.2 ++ [k])
  else if c = 22 ∧ 0 < st.2.length then
    let p := st.2.getD (st.2.length - 1) 0
    ((out.set k p).set p k, st.2.take (st.2.length - 1))
  else (out, st.2)

def matchTo (cs : List Int) : Nat → List Int × List Nat
  | 0 => (List.replicate cs.length 0, [])
  | k + 1 => matchStep k (cs.getD k 0) (matchTo cs k)

def matched (cs : List Int) : List Int := (matchTo cs cs.length).1

theorem matchTo_inv (cs : List Int) (k : Nat) : (matchTo cs k).1.length = cs.length ∧ (matchTo cs k).2.length ≤ k ∧ ∀ p ∈ (matchTo cs k).2, p < k := by
  induction k with
  | zero => simp [matchTo]
  | succ k ih =>
    obtain ⟨h1, h2, h3⟩ := ih
    simp only [matchTo, matchStep]
    split
    · refine ⟨by simpa using h1, by simp; omega, ?_⟩
      intro p hp
      simp only [List.mem_append, List.mem_singleton] at hp
      rcases hp with hp | hp
      · have := h3 p hp; omega
      · omega
    · split
      · refine ⟨by simpa using h1, by simp; omega, fun p hp => ?_⟩
        have := h3 p (List.mem_of_mem_take hp); omega
      · exact ⟨by simpa using h1, by simp; omega, fun p hp => by have := h3 p hp; omega⟩

end Go.Proofs.Ytgkmpndebcdigaa
