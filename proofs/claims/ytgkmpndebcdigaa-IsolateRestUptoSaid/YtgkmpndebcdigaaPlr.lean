/-
  Layer 9, plain laws: without the other classes, and with what stands behind, the matches are the same.
-/
import Derived.Test.YtgkmpndebcdigaaPlb
namespace Go.Proofs.Ytgkmpndebcdigaa

/-- is a class one that isolates ask? -/
def kept (c : Int) : Bool := iso c || c == 22

/-- the statement's first loop: what is kept, and where it stands -/
def fewTo (cs : List Int) : Nat → List Int × List Nat
  | 0 => ([], [])
  | k + 1 => if kept (cs.getD k 0) then ((fewTo cs k).1 ++ [cs.getD k 0], (fewTo cs k).2 ++ [k]) else fewTo cs k

theorem fewTo_inv (cs : List Int) (k : Nat) : (fewTo cs k).1.length = (fewTo cs k).2.length ∧ (fewTo cs k).2.length ≤ k ∧ (∀ p ∈ (fewTo cs k).2, p < k) ∧ (fewTo cs k).2.Pairwise (· < ·) := by
  induction k with
  | zero => simp [fewTo]
  | succ k ih =>
    obtain ⟨h1, h2, h3, h4⟩ := ih
    simp only [fewTo]
    split
    · refine ⟨by simp [h1], by simp; omega, ?_, ?_⟩
      · intro p hp
        simp only [List.mem_append, List.mem_singleton] at hp
        rcases hp with hp | rfl
        · have := h3 p hp; omega
        · omega
      · refine List.pairwise_append.2 ⟨h4, by simp, ?_⟩
        intro a ha b hb
        simp only [List.mem_singleton] at hb
        have := h3 a ha; omega
    · exact ⟨h1, by omega, fun p hp => by have := h3 p hp; omega, h4⟩

theorem fewTo_prefix (cs : List Int) (k d j : Nat) (hj : j < (fewTo cs k).2.length) :
    j < (fewTo cs (k + d)).2.length ∧ (fewTo cs (k + d)).1[j]? = (fewTo cs k).1[j]? ∧ (fewTo cs (k + d)).2[j]? = (fewTo cs k).2[j]? := by
  induction d with
  | zero => exact ⟨hj, rfl, rfl⟩
  | succ d ih =>
    obtain ⟨h0, h1, h2⟩ := ih
    have hl := (fewTo_inv cs (k + d)).1
    rw [show k + (d + 1) = (k + d) + 1 from by omega, fewTo]
    split
    · refine ⟨by simp; omega, ?_, ?_⟩
      · rw [List.getElem?_append_left (by omega), h1]
      · rw [List.getElem?_append_left (by omega), h2]
    · exact ⟨h0, h1, h2⟩

/-- The two runs go side by side. -/
structure Few (cs fs : List Int) (a : Nat → Nat) (k k' : Nat) : Prop where
  stack : (matchTo cs k).2 = (matchTo fs k').2.map a
  val : ∀ j, j < k' → ∃ v : Int, (matchTo fs k').1[j]? = some v ∧ (matchTo cs k).1[a j]? = some (if v = -1 then -1 else (a v.toNat : Int)) ∧ (v = -1 ∨ ∃ q : Nat, v = q ∧ q < k')

theorem few_skip {cs fs : List Int} {a : Nat → Nat} {k k' : Nat} (_hk : k < cs.length) (hlt : ∀ j, j < k' → a j < k) (hc : kept (cs.getD k 0) = false) (h : Few cs fs a k k') : Few cs fs a (k + 1) k' := by
  have hi : iso (cs.getD k 0) = false := by simp only [kept, Bool.or_eq_false_iff] at hc; exact hc.1
  have h22 : ¬ cs.getD k 0 = 22 := by simp only [kept, Bool.or_eq_false_iff, beq_eq_false_iff_ne] at hc; exact hc.2
  have e : matchTo cs (k + 1) = ((matchTo cs k).1.set k (-1), (matchTo cs k).2) := by
    rw [matchTo, matchStep]
    simp only
    rw [if_neg (by rw [hi]; simp), if_neg (fun e => h22 e.1)]
  refine ⟨by rw [e]; exact h.stack, fun j hj => ?_⟩
  obtain ⟨v, h1, h2, h3⟩ := h.val j hj
  refine ⟨v, h1, ?_, h3⟩
  rw [e, List.getElem?_set_ne (by have := hlt j hj; omega)]
  exact h2

theorem few_take {cs fs : List Int} {a : Nat → Nat} {k k' : Nat} (hk : k < cs.length) (hk' : k' < fs.length) (hlt : ∀ j, j < k' → a j < k) (hinj : ∀ i j, i < k' → j < k' → a i = a j → i = j) (ha : a k' = k)
    (hfk : fs.getD k' 0 = cs.getD k 0) (hc : kept (cs.getD k 0) = true) (h : Few cs fs a k k') : Few cs fs a (k + 1) (k' + 1) := by
  obtain ⟨l1, l2, l3⟩ := matchTo_inv cs k
  obtain ⟨m1, m2, m3⟩ := matchTo_inv fs k'
  have hs := h.stack
  have hv := h.val
  by_cases hi : iso (cs.getD k 0) = true
  · have e : matchTo cs (k + 1) = ((matchTo cs k).1.set k (-1), (matchTo cs k).2 ++ [k]) := by
      rw [matchTo, matchStep]
      simp only
      rw [if_pos hi]
    have e' : matchTo fs (k' + 1) = ((matchTo fs k').1.set k' (-1), (matchTo fs k').2 ++ [k']) := by
      rw [matchTo, matchStep, hfk]
      simp only
      rw [if_pos hi]
    refine ⟨by rw [e, e', List.map_append, ← hs]; simp [ha], fun j hj => ?_⟩
    rw [e, e']
    by_cases hjk : j = k'
    · subst hjk
      refine ⟨-1, by rw [List.getElem?_set_self (by omega)], ?_, .inl rfl⟩
      rw [ha, List.getElem?_set_self (by omega)]; rfl
    · obtain ⟨v, h1, h2, h3⟩ := hv j (by omega)
      refine ⟨v, by rw [List.getElem?_set_ne (by omega)]; exact h1, by rw [List.getElem?_set_ne (by have := hlt j (by omega); omega)]; exact h2, ?_⟩
      rcases h3 with h3 | ⟨q, h3, h4⟩
      · exact .inl h3
      · exact .inr ⟨q, h3, by omega⟩
  · have h22 : cs.getD k 0 = 22 := by
      simp only [kept, Bool.or_eq_true, beq_iff_eq] at hc
      exact hc.resolve_left hi
    have hlen : (matchTo cs k).2.length = (matchTo fs k').2.length := by rw [hs, List.length_map]
    by_cases hpos : 0 < (matchTo fs k').2.length
    · obtain ⟨r, p, hr⟩ : ∃ r p, (matchTo fs k').2 = r ++ [p] := ⟨_, _, (List.dropLast_concat_getLast (List.ne_nil_of_length_pos hpos)).symm⟩
      have hrm : (matchTo cs k).2 = r.map a ++ [a p] := by rw [hs, hr]; simp
      have hpk : p < k' := m3 p (by rw [hr]; simp)
      have e : matchTo cs (k + 1) = ((((matchTo cs k).1.set k (-1)).set k (a p : Int)).set (a p) (k : Int), r.map a) := by
        rw [matchTo, matchStep]
        simp only
        rw [if_neg hi, if_pos ⟨h22, by omega⟩, hrm]
        simp
      have e' : matchTo fs (k' + 1) = ((((matchTo fs k').1.set k' (-1)).set k' (p : Int)).set p (k' : Int), r) := by
        rw [matchTo, matchStep, hfk]
        simp only
        rw [if_neg hi, if_pos ⟨h22, hpos⟩, hr]
        simp
      have hap := hlt p hpk
      refine ⟨by rw [e, e'], fun j hj => ?_⟩
      rw [e, e']
      by_cases hjk : j = k'
      · subst hjk
        refine ⟨(p : Int), by rw [List.getElem?_set_ne (by omega), List.getElem?_set_self (by simp; omega)], ?_, .inr ⟨p, rfl, by omega⟩⟩
        rw [ha, List.getElem?_set_ne (by omega), List.getElem?_set_self (by simp; omega), if_neg (by omega), Int.toNat_natCast]
      · by_cases hjp : j = p
        · subst hjp
          refine ⟨(k' : Int), by rw [List.getElem?_set_self (by simp; omega)], ?_, .inr ⟨k', rfl, by omega⟩⟩
          rw [List.getElem?_set_self (by simp; omega), if_neg (by omega), Int.toNat_natCast, ha]
        · obtain ⟨v, h1, h2, h3⟩ := hv j (by omega)
          have hajk := hlt j (by omega)
          have hajp : a p ≠ a j := fun e => hjp (hinj j p (by omega) hpk e.symm)
          refine ⟨v, by rw [List.getElem?_set_ne (by clear h3; omega), List.getElem?_set_ne (by clear h3; omega), List.getElem?_set_ne (by clear h3; omega)]; exact h1, ?_, ?_⟩
          · rw [List.getElem?_set_ne hajp, List.getElem?_set_ne (by omega), List.getElem?_set_ne (by omega)]; exact h2
          · rcases h3 with h3 | ⟨q, h3, h4⟩
            · exact .inl h3
            · exact .inr ⟨q, h3, by omega⟩
    · have e : matchTo cs (k + 1) = ((matchTo cs k).1.set k (-1), (matchTo cs k).2) := by
        rw [matchTo, matchStep]
        simp only
        rw [if_neg hi, if_neg (fun e => by omega)]
      have e' : matchTo fs (k' + 1) = ((matchTo fs k').1.set k' (-1), (matchTo fs k').2) := by
        rw [matchTo, matchStep, hfk]
        simp only
        rw [if_neg hi, if_neg (fun e => by omega)]
      refine ⟨by rw [e, e']; exact hs, fun j hj => ?_⟩
      rw [e, e']
      by_cases hjk : j = k'
      · subst hjk
        refine ⟨-1, by rw [List.getElem?_set_self (by omega)], ?_, .inl rfl⟩
        rw [ha, List.getElem?_set_self (by omega)]; rfl
      · obtain ⟨v, h1, h2, h3⟩ := hv j (by omega)
        refine ⟨v, by rw [List.getElem?_set_ne (by omega)]; exact h1, by rw [List.getElem?_set_ne (by have := hlt j (by omega); omega)]; exact h2, ?_⟩
        rcases h3 with h3 | ⟨q, h3, h4⟩
        · exact .inl h3
        · exact .inr ⟨q, h3, by omega⟩

theorem few_all (cs : List Int) (k : Nat) (hk : k ≤ cs.length) : Few cs (fewTo cs cs.length).1 (fun j => (fewTo cs cs.length).2.getD j 0) k (fewTo cs k).2.length := by
  induction k with
  | zero => exact ⟨by simp [matchTo, fewTo], by simp [fewTo]⟩
  | succ k ih =>
    have h := ih (by omega)
    obtain ⟨f1, f2, f3, f4⟩ := fewTo_inv cs k
    have hpre := fun j hj => fewTo_prefix cs k (cs.length - k) j hj
    rw [show k + (cs.length - k) = cs.length from by omega] at hpre
    have hlt : ∀ j, j < (fewTo cs k).2.length → (fewTo cs cs.length).2.getD j 0 < k := by
      intro j hj
      rw [List.getD_eq_getElem?_getD, (hpre j hj).2.2, List.getElem?_eq_getElem hj]
      exact f3 _ (List.getElem_mem hj)
    have hinj : ∀ i j, i < (fewTo cs k).2.length → j < (fewTo cs k).2.length → (fewTo cs cs.length).2.getD i 0 = (fewTo cs cs.length).2.getD j 0 → i = j := by
      intro i j hi hj
      rw [List.getD_eq_getElem?_getD, (hpre i hi).2.2, List.getElem?_eq_getElem hi, List.getD_eq_getElem?_getD, (hpre j hj).2.2, List.getElem?_eq_getElem hj]
      intro e
      have e' : (fewTo cs k).2[i] = (fewTo cs k).2[j] := e
      rcases Nat.lt_trichotomy i j with h | h | h
      · have := List.pairwise_iff_getElem.1 f4 i j hi hj h; omega
      · exact h
      · have := List.pairwise_iff_getElem.1 f4 j i hj hi h; omega
    by_cases hc : kept (cs.getD k 0) = true
    · have hn : fewTo cs (k + 1) = ((fewTo cs k).1 ++ [cs.getD k 0], (fewTo cs k).2 ++ [k]) := by rw [fewTo, if_pos hc]
      have hl : (fewTo cs (k + 1)).2.length = (fewTo cs k).2.length + 1 := by rw [hn]; simp
      have hp := fewTo_prefix cs (k + 1) (cs.length - (k + 1)) (fewTo cs k).2.length (by omega)
      rw [show k + 1 + (cs.length - (k + 1)) = cs.length from by omega, hn] at hp
      obtain ⟨p0, p1, p2⟩ := hp
      rw [← f1] at p1
      simp only [List.getElem?_concat_length] at p1 p2
      rw [hl]
      refine few_take (by omega) (by rw [(fewTo_inv cs cs.length).1]; exact p0) hlt hinj ?_ ?_ hc h
      · show (fewTo cs cs.length).2.getD _ 0 = k
        rw [List.getD_eq_getElem?_getD, p2]; rfl
      · rw [List.getD_eq_getElem?_getD, ← f1, p1]; rfl
    · simp only [Bool.not_eq_true] at hc
      have hn : fewTo cs (k + 1) = fewTo cs k := by rw [fewTo, if_neg (by rw [hc]; simp)]
      rw [hn]
      exact few_skip (by omega) hlt hc h

theorem few_end (cs : List Int) (j : Nat) (hj : j < (fewTo cs cs.length).2.length) :
    ∃ p : Nat, (fewTo cs cs.length).2[j]? = some p ∧ p < cs.length ∧
      (((matched (fewTo cs cs.length).1)[j]? = some (-1) ∧ (matched cs)[p]? = some (-1)) ∨
       ∃ q r : Nat, (matched (fewTo cs cs.length).1)[j]? = some (q : Int) ∧ q < (fewTo cs cs.length).2.length ∧ (fewTo cs cs.length).2[q]? = some r ∧ (matched cs)[p]? = some (r : Int)) := by
  have h := few_all cs cs.length (Nat.le_refl _)
  obtain ⟨f1, f2, f3, f4⟩ := fewTo_inv cs cs.length
  obtain ⟨v, h1, h2, h3⟩ := h.val j hj
  have hp : (fewTo cs cs.length).2[j]? = some ((fewTo cs cs.length).2[j]) := List.getElem?_eq_getElem hj
  refine ⟨_, hp, f3 _ (List.getElem_mem hj), ?_⟩
  have ea : (fewTo cs cs.length).2.getD j 0 = (fewTo cs cs.length).2[j] := by rw [List.getD_eq_getElem?_getD, hp]; rfl
  rw [← f1] at h1
  simp only [ea] at h2
  rcases h3 with rfl | ⟨q, rfl, hq⟩
  · exact .inl ⟨h1, h2⟩
  · rw [if_neg (by omega), Int.toNat_natCast] at h2
    refine .inr ⟨q, (fewTo cs cs.length).2[q], h1, hq, List.getElem?_eq_getElem hq, ?_⟩
    rw [List.getD_eq_getElem?_getD, List.getElem?_eq_getElem hq] at h2
    exact h2

end Go.Proofs.Ytgkmpndebcdigaa
