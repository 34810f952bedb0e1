/-
  Layer 9, the plain law: what the stack matches is what counting matches.
-/
import Derived.Test.YtgkmpndebcdigaaWan
namespace Go.Proofs.Ytgkmpndebcdigaa
open Go.RowKit

/-- what closes place i, by counting -/
def cl (cs : List Int) (i : Nat) : Int := closesL (cs.drop i) 0 i
def isoAt (cs : List Int) (i : Nat) : Bool := iso (cs.getD i 0)

theorem closesL_step (cs : List Int) (m : Int) (k : Nat) (hk : k < cs.length) :
    closesL (cs.drop k) m k = (if (if cs.getD k 0 = 22 then (if isoAt cs k then m + 1 else m) - 1 else if isoAt cs k then m + 1 else m) = 0 then (k : Int)
      else closesL (cs.drop (k + 1)) (if cs.getD k 0 = 22 then (if isoAt cs k then m + 1 else m) - 1 else if isoAt cs k then m + 1 else m) (k + 1)) := by
  have h : cs.getD k 0 = cs[k] := by rw [List.getD_eq_getElem?_getD, List.getElem?_eq_getElem hk]; rfl
  rw [List.drop_eq_getElem_cons hk, closesL, isoAt, h]

theorem iso_22 (c : Int) (h : c = 22) : iso c = false := by subst h; rfl

structure Inv (cs : List Int) (k : Nat) (o : List Int) (s : List Nat) : Prop where
  len : o.length = cs.length
  lt : ∀ i ∈ s, i < k
  nd : s.Nodup
  cnt : ∀ t i, s[t]? = some i → cl cs i = closesL (cs.drop k) ((s.length - t : Nat) : Int) k
  opn : ∀ i ∈ s, isoAt cs i = true ∧ o[i]? = some (-1)
  shut : ∀ i, i < k → isoAt cs i = true → i ∈ s ∨ ∃ p : Nat, p < k ∧ cl cs i = p ∧ o[i]? = some (p : Int) ∧ o[p]? = some (i : Int)
  rest : ∀ i, i < k → isoAt cs i = false → o[i]? = some (-1) ∨ ∃ j, j < cs.length ∧ isoAt cs j = true ∧ cl cs j = i

theorem inv_step {cs : List Int} {k : Nat} {o : List Int} {s : List Nat} (hk : k < cs.length) (h : Inv cs k o s) :
    Inv cs (k + 1) (matchStep k (cs.getD k 0) (o, s)).1 (matchStep k (cs.getD k 0) (o, s)).2 := by
  have hko : k < o.length := by rw [h.len]; exact hk
  have hst := fun m => closesL_step cs m k hk
  have hset : ∀ i, i < k → (o.set k (-1))[i]? = o[i]? := fun i hi => by rw [List.getElem?_set_ne (by omega)]
  have hsetk : (o.set k (-1))[k]? = some (-1) := by rw [List.getElem?_set_self hko]
  by_cases hi : isoAt cs k = true
  · have h22 : ¬ cs.getD k 0 = 22 := fun e => by rw [isoAt, iso_22 _ e] at hi; cases hi
    have e : matchStep k (cs.getD k 0) (o, s) = (o.set k (-1), s ++ [k]) := by
      simp only [matchStep]; rw [if_pos (by exact hi)]
    rw [e]
    simp only [hi, if_true, if_neg h22] at hst
    refine ⟨by simpa using h.len, ?_, ?_, ?_, ?_, ?_, ?_⟩
    · intro i hm
      simp only [List.mem_append, List.mem_singleton] at hm
      rcases hm with hm | rfl
      · have := h.lt i hm; omega
      · omega
    · refine List.nodup_append.2 ⟨h.nd, by simp, ?_⟩
      intro a ha b hb
      simp only [List.mem_singleton] at hb
      have := h.lt a ha; omega
    · intro t i ht
      by_cases htl : t < s.length
      · rw [List.getElem?_append_left htl] at ht
        rw [h.cnt t i ht, hst, if_neg (by omega)]
        congr 1
        simp; omega
      · have htt : t = s.length := by
          have := (List.getElem?_eq_some_iff.1 ht).1
          simp at this; omega
        subst htt
        simp only [List.getElem?_concat_length, Option.some.injEq] at ht
        subst ht
        rw [cl, hst, if_neg (by omega)]
        congr 1
        simp
    · intro i hm
      simp only [List.mem_append, List.mem_singleton] at hm
      rcases hm with hm | rfl
      · exact ⟨(h.opn i hm).1, by rw [hset i (h.lt i hm)]; exact (h.opn i hm).2⟩
      · exact ⟨hi, hsetk⟩
    · intro i hik his
      by_cases hie : i = k
      · subst hie; exact .inl (by simp)
      · rcases h.shut i (by omega) his with h1 | ⟨p, h1, h2, h3, h4⟩
        · exact .inl (by simp [h1])
        · exact .inr ⟨p, by omega, h2, by rw [hset i (by omega)]; exact h3, by rw [hset p h1]; exact h4⟩
    · intro i hik his
      have hie : i ≠ k := fun e => by subst e; rw [hi] at his; cases his
      rw [hset i (by omega)]
      exact h.rest i (by omega) his
  · simp only [Bool.not_eq_true] at hi
    have hi' : iso (cs.getD k 0) = false := hi
    by_cases hp : cs.getD k 0 = 22 ∧ 0 < s.length
    · obtain ⟨h22, hpos⟩ := hp
      obtain ⟨r, p, rfl⟩ : ∃ r p, s = r ++ [p] := ⟨_, _, (List.dropLast_concat_getLast (List.ne_nil_of_length_pos hpos)).symm⟩
      have e : matchStep k (cs.getD k 0) (o, r ++ [p]) = (((o.set k (-1)).set k (p : Int)).set p (k : Int), r) := by
        simp only [matchStep]
        rw [if_neg (by rw [hi']; simp), if_pos ⟨h22, hpos⟩]
        simp
      rw [e]
      have hpk : p < k := h.lt p (by simp)
      obtain ⟨hpi, hpo⟩ := h.opn p (by simp)
      have hpr : p ∉ r := fun hm => by
        have := (List.nodup_append.1 h.nd).2.2 p hm p (by simp)
        exact this rfl
      have hcp : cl cs p = k := by
        rw [h.cnt r.length p (by simp), hst, h22, hi]
        simp
      simp only [h22, if_true, hi, Bool.false_eq_true, if_false] at hst
      have hnew : ∀ i, i ≠ p → i < k → (((o.set k (-1)).set k (p : Int)).set p (k : Int))[i]? = o[i]? := fun i h1 h2 => by
        rw [List.getElem?_set_ne (by omega), List.getElem?_set_ne (by omega), List.getElem?_set_ne (by omega)]
      have hnk : (((o.set k (-1)).set k (p : Int)).set p (k : Int))[k]? = some (p : Int) := by
        rw [List.getElem?_set_ne (by omega), List.getElem?_set_self (by simpa using hko)]
      have hnp : (((o.set k (-1)).set k (p : Int)).set p (k : Int))[p]? = some (k : Int) := by
        rw [List.getElem?_set_self (by simp; omega)]
      refine ⟨by simpa using h.len, ?_, ?_, ?_, ?_, ?_, ?_⟩
      · intro i hm; have := h.lt i (by simp [hm]); omega
      · exact (List.nodup_append.1 h.nd).1
      · intro t i ht
        have htl : t < r.length := (List.getElem?_eq_some_iff.1 ht).1
        rw [h.cnt t i (by rw [List.getElem?_append_left htl]; exact ht), hst]
        rw [if_neg (by simp; omega)]
        congr 1
        simp; omega
      · intro i hm
        have hip : i ≠ p := fun e => hpr (e ▸ hm)
        exact ⟨(h.opn i (by simp [hm])).1, by rw [hnew i hip (h.lt i (by simp [hm]))]; exact (h.opn i (by simp [hm])).2⟩
      · intro i hik his
        have hie : i ≠ k := fun e => by subst e; rw [hi] at his; cases his
        by_cases hip : i = p
        · subst hip
          exact .inr ⟨k, by omega, hcp, hnp, hnk⟩
        · rcases h.shut i (by omega) his with h1 | ⟨q, h1, h2, h3, h4⟩
          · simp only [List.mem_append, List.mem_singleton] at h1
            rcases h1 with h1 | h1
            · exact .inl h1
            · exact absurd h1 hip
          · have hqp : q ≠ p := fun e => by
              subst e
              rw [hpo] at h4
              injection h4 with h4
              omega
            exact .inr ⟨q, by omega, h2, by rw [hnew i hip (by omega)]; exact h3, by rw [hnew q hqp h1]; exact h4⟩
      · intro i hik his
        by_cases hie : i = k
        · subst hie; exact .inr ⟨p, by omega, hpi, hcp⟩
        · have hip : i ≠ p := fun e => by subst e; rw [hpi] at his; cases his
          rw [hnew i hip (by omega)]
          exact h.rest i (by omega) his
    · have e : matchStep k (cs.getD k 0) (o, s) = (o.set k (-1), s) := by
        simp only [matchStep]
        rw [if_neg (by rw [hi']; simp), if_neg hp]
      rw [e]
      simp only [hi, Bool.false_eq_true, if_false] at hst
      refine ⟨by simpa using h.len, fun i hm => by have := h.lt i hm; omega, h.nd, ?_, ?_, ?_, ?_⟩
      · intro t i ht
        have htl : t < s.length := (List.getElem?_eq_some_iff.1 ht).1
        have h22 : ¬ cs.getD k 0 = 22 := fun e => hp ⟨e, by omega⟩
        rw [h.cnt t i ht, hst, if_neg h22, if_neg (by omega)]
      · intro i hm
        exact ⟨(h.opn i hm).1, by rw [hset i (h.lt i hm)]; exact (h.opn i hm).2⟩
      · intro i hik his
        have hie : i ≠ k := fun e => by subst e; rw [hi] at his; cases his
        rcases h.shut i (by omega) his with h1 | ⟨p, h1, h2, h3, h4⟩
        · exact .inl h1
        · exact .inr ⟨p, by omega, h2, by rw [hset i (by omega)]; exact h3, by rw [hset p h1]; exact h4⟩
      · intro i hik his
        by_cases hie : i = k
        · subst hie; exact .inl hsetk
        · rw [hset i (by omega)]; exact h.rest i (by omega) his

theorem inv_all (cs : List Int) (k : Nat) (hk : k ≤ cs.length) : Inv cs k (matchTo cs k).1 (matchTo cs k).2 := by
  induction k with
  | zero => exact ⟨by simp [matchTo], by simp [matchTo], by simp [matchTo], by simp [matchTo], by simp [matchTo], by omega, by omega⟩
  | succ k ih => exact inv_step (by omega) (ih (by omega))

/-- what the stack matches, said by counting -/
theorem matched_iso (cs : List Int) (i : Nat) (hi : i < cs.length) (h : isoAt cs i = true) : (matched cs)[i]? = some (cl cs i) ∧ ∀ p : Nat, cl cs i = p → (matched cs)[p]? = some (i : Int) := by
  have I := inv_all cs cs.length (Nat.le_refl _)
  rcases I.shut i hi h with h1 | ⟨p, h1, h2, h3, h4⟩
  · obtain ⟨t, ht⟩ := List.getElem?_of_mem h1
    have hc := I.cnt t i ht
    rw [List.drop_eq_nil_of_le (Nat.le_refl _)] at hc
    have hc' : cl cs i = -1 := hc
    refine ⟨by rw [hc']; exact (I.opn i h1).2, fun p hp => by rw [hc'] at hp; omega⟩
  · refine ⟨by rw [h2]; exact h3, fun q hq => ?_⟩
    have : q = p := by rw [h2] at hq; omega
    subst this; exact h4
theorem matched_rest (cs : List Int) (i : Nat) (hi : i < cs.length) (h : isoAt cs i = false) : (matched cs)[i]? = some (-1) ∨ ∃ j, j < cs.length ∧ isoAt cs j = true ∧ cl cs j = i :=
  (inv_all cs cs.length (Nat.le_refl _)).rest i hi h
theorem matched_length (cs : List Int) : (matched cs).length = cs.length := (inv_all cs cs.length (Nat.le_refl _)).len

theorem wantTo_inv (cs : List Int) (j : Nat) (hj : j ≤ cs.length) :
    (∀ i, i < cs.length → (wantTo cs j)[i]? = some (-1) ∨ (wantTo cs j)[i]? = (matched cs)[i]?) ∧
    (∀ i, i < j → isoAt cs i = true → ∀ p : Nat, cl cs i = p → (wantTo cs j)[i]? = (matched cs)[i]? ∧ (wantTo cs j)[p]? = (matched cs)[p]?) := by
  induction j with
  | zero =>
    refine ⟨fun i hi => .inl ?_, by omega⟩
    rw [wantTo, List.getElem?_replicate, if_pos hi]
  | succ j ih =>
    obtain ⟨h1, h2⟩ := ih (by omega)
    have hl := wantTo_length cs j
    by_cases hc : (isoAt cs j && decide (0 ≤ cl cs j)) = true
    · have e : wantTo cs (j + 1) = ((wantTo cs j).set j (cl cs j)).set (cl cs j).toNat j := by
        rw [wantTo]
        exact if_pos hc
      simp only [Bool.and_eq_true, decide_eq_true_eq] at hc
      obtain ⟨hj1, hj2⟩ := hc
      obtain ⟨hm1, hm2⟩ := matched_iso cs j (by omega) hj1
      obtain ⟨p, hp⟩ : ∃ p : Nat, cl cs j = p := ⟨(cl cs j).toNat, by omega⟩
      have hpm := hm2 p hp
      have hpl : p < cs.length := by rw [← matched_length cs]; exact (List.getElem?_eq_some_iff.1 hpm).1
      rw [e, hp, Int.toNat_natCast]
      have key : ∀ i, i < cs.length → (((wantTo cs j).set j (p : Int)).set p (j : Int))[i]? = (matched cs)[i]? ∨ (((wantTo cs j).set j (p : Int)).set p (j : Int))[i]? = (wantTo cs j)[i]? := by
        intro i hi
        by_cases hip : i = p
        · subst hip; rw [List.getElem?_set_self (by simp; omega)]; exact .inl hpm.symm
        · rw [List.getElem?_set_ne (by omega)]
          by_cases hij : i = j
          · subst hij; rw [List.getElem?_set_self (by omega), hm1, hp]; exact .inl rfl
          · rw [List.getElem?_set_ne (by omega)]; exact .inr rfl
      refine ⟨fun i hi => ?_, fun i hi his q hq => ?_⟩
      · rcases key i hi with h | h
        · exact .inr h
        · rw [h]; exact h1 i hi
      · by_cases hij : i = j
        · subst hij
          have hqp : q = p := by rw [hp] at hq; omega
          subst hqp
          refine ⟨?_, ?_⟩
          · by_cases hiq : i = q
            · subst hiq; rw [List.getElem?_set_self (by simp; omega)]; exact hpm.symm
            · rw [List.getElem?_set_ne (by omega), List.getElem?_set_self (by omega), hm1, hp]
          · rw [List.getElem?_set_self (by simp; omega)]; exact hpm.symm
        · obtain ⟨g1, g2⟩ := h2 i (by omega) his q hq
          have hql : q < cs.length := by
            have := (matched_iso cs i (by omega) his).2 q hq
            rw [← matched_length cs]; exact (List.getElem?_eq_some_iff.1 this).1
          refine ⟨?_, ?_⟩
          · rcases key i (by omega) with h | h
            · exact h
            · rw [h]; exact g1
          · rcases key q hql with h | h
            · exact h
            · rw [h]; exact g2
    · have e : wantTo cs (j + 1) = wantTo cs j := by
        rw [wantTo]
        exact if_neg hc
      rw [e]
      refine ⟨h1, fun i hi his p hp => ?_⟩
      by_cases hij : i = j
      · subst hij
        rw [his, hp] at hc
        simp at hc
      · exact h2 i (by omega) his p hp

theorem want_matched (cs : List Int) : wantTo cs cs.length = matched cs := by
  obtain ⟨h1, h2⟩ := wantTo_inv cs cs.length (Nat.le_refl _)
  apply List.ext_getElem?
  intro i
  by_cases hi : i < cs.length
  · by_cases his : isoAt cs i = true
    · obtain ⟨m1, m2⟩ := matched_iso cs i hi his
      rcases closesL_bd (cs.drop i) 0 i with hc | ⟨p, hc, _⟩
      · have hc' : cl cs i = -1 := hc
        rw [hc'] at m1
        rcases h1 i hi with h | h
        · rw [h, m1]
        · exact h
      · exact (h2 i hi his p hc).1
    · simp only [Bool.not_eq_true] at his
      rcases matched_rest cs i hi his with m1 | ⟨j, hj, hji, hc⟩
      · rcases h1 i hi with h | h
        · rw [h, m1]
        · exact h
      · exact (h2 j hj hji i hc).2
  · rw [List.getElem?_eq_none (by rw [wantTo_length]; omega), List.getElem?_eq_none (by rw [matched_length]; omega)]

theorem matches_law (A : Option Addr) (n c : Nat) (zs : List Int) (w : World) (hr : Rd w 1 A n (ints .u8 zs)) (hz : ∀ z ∈ zs, 0 ≤ z ∧ z ≤ 255) (hn : n ≤ 1048576) :
    Calls Try.prog 3 #[.slice A n c] w fun e w' => e = .returned (.bool true) ∧ Below w.heap.size w w' := by
  have hl : zs.length = n := by simpa [ints] using hr.1
  refine matches_walk A n c zs w hr hn hz ?_
  have h := want_matched (classes zs)
  rw [show (classes zs).length = n from by simp [classes, hl]] at h
  exact h

end Go.Proofs.Ytgkmpndebcdigaa
