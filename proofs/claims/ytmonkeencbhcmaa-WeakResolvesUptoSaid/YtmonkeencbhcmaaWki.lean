/-
  Layer 14, the document's answer: the contracts of the rules 4 and 5, and of Weak, over the program.
-/
import Derived.Test.YtmonkeencbhcmaaWkh
namespace Go.Proofs.Ytmonkeencbhcmaa.wk
open Go.RowKit

set_option maxRecDepth 100000 in
set_option maxHeartbeats 8000000 in
theorem rule4_any (A : Option Addr) (n c : Nat) (cs : List Int) (w : World) (hr : Rd w 1 A n (ints .i64 cs)) (hn : n ≤ 2097152) :
    Calls Try.prog 33 #[.slice A n c] w fun e w' => ∃ v, e = .returned v ∧ w'.ownsRow w.heap.size 3 1 v n (ints .i64 (num1W cs)) ∧ Below w.heap.size w w' := by
  have HL := Lib.hid (show cs.length = n by simpa using hr.1)
  go_enter Try.func33, Try.ntmps33
  go_wp2_with (go_at_call 39; (with_reducible refine (copied_any _ _ _ cs _ hr hn).mono ?_); rintro e w3 ⟨v3, rfl, hown3, hb3⟩; obtain ⟨A3, c3, rfl, _, _⟩ := own_slice hown3)
  go_loopw [4] (fun i wr => ∃ (k : Nat) (cur : List Int), 1 ≤ k ∧ k ≤ n + 1 ∧ i = .int .i64 k ∧ Inv1 cs k cur ∧ wr.ownsRow w.heap.size 3 1 (.slice A3 n c3) n (ints .i64 cur) ∧ Below w.heap.size w wr)
    (fun i _ => n + 1 - (intOf i).toNat)
  case atStart => exact ⟨1, cs, Nat.le_refl _, by omega, rfl, inv1_start cs, hown3, hb3⟩
  case round =>
    clear hown3 hb3 hr
    obtain ⟨k, cur, hk1, hk, rfl, hI, hown, hb⟩ := hrel
    by_cases hlt : k < n
    · obtain ⟨j, hj⟩ : ∃ j, k = j + 1 := ⟨k - 1, by omega⟩
      obtain ⟨p, x, b, e1, e2, e3, hy, hno⟩ := inv1_shape' hI (by rw [HL.out]; exact hlt) j hj
      rw [HL.out] at e3
      obtain ⟨g, cap, hv, hg1, hg2⟩ := hown.form (by omega)
      injection hv with hA hnn hcc
      subst hA; subst hcc
      have c1 := (hown.cellAt j (by omega)).trans (show _ = some (Value.int .i64 p) from by simp [ints, e1])
      have c2 := (hown.cellAt k (by omega)).trans (show _ = some (Value.int .i64 x) from by simp [ints, e2])
      have fk := hown.frozenAt k
      have hst := (hown.stored k (.int .i64 p)).1
      rw [ints_set] at hst
      have HST := Lib.hid (show ∀ y, y = p → (wr.setCell ⟨g, k, none⟩ (.int .i64 y)).ownsRow w.heap.size 3 1 (.slice (some ⟨g, 0, none⟩) n c3) n (ints .i64 (cur.set k p)) from fun _ hy => hy ▸ hst)
      have HO := Lib.hid hown
      have HBL := Lib.hid (fun y => hb.setCell (p := ⟨g, k, none⟩) hg1 (.int .i64 y))
      have HC := Lib.hid (behind_any _ n c3 cur k b wr (Rd.of_own hown) hn hlt e3)
      have HY := Lib.hid hy
      have HN := Lib.hid hno
      have q1 : (j : Int) < (n : Int) := by omega
      have q3 : (k : Int) < (n : Int) := by omega
      have q5 : j < n := by omega
      have x1 : (k : Int) - 1 = (j : Int) := by omega
      clear hst hown hy hno e1 e2 e3 hI hj
      have hcases : (x = 4 ∧ p = 3 ∧ b = 3 ∧ cond1 p x b) ∨ (x = 7 ∧ p = 3 ∧ b = 3 ∧ cond1 p x b) ∨ (x = 7 ∧ p = 6 ∧ b = 6 ∧ cond1 p x b) ∨
          ((x == 4) = false ∧ (x == 7) = false ∧ ¬ cond1 p x b) ∨ (x = 4 ∧ (p == 3) = false ∧ ¬ cond1 p x b) ∨ (x = 4 ∧ p = 3 ∧ (b == 3) = false ∧ ¬ cond1 p x b) ∨
          (x = 7 ∧ (p == 3) = false ∧ (p == 6) = false ∧ ¬ cond1 p x b) ∨ (x = 7 ∧ p = 3 ∧ (b == 3) = false ∧ ¬ cond1 p x b) ∨ (x = 7 ∧ p = 6 ∧ (b == 6) = false ∧ ¬ cond1 p x b) := by
        simp only [beq_eq_false_iff_ne, ne_eq, cond1]; omega
      rcases hcases with ⟨rfl, rfl, rfl, hc⟩ | ⟨rfl, rfl, rfl, hc⟩ | ⟨rfl, rfl, rfl, hc⟩ | ⟨h4, h7, hc⟩ | ⟨rfl, hp, hc⟩ | ⟨rfl, rfl, hbb, hc⟩ | ⟨rfl, hp, hp6, hc⟩ | ⟨rfl, rfl, hbb, hc⟩ | ⟨rfl, rfl, hbb, hc⟩
      all_goals
        have HCC := Lib.hid hc
        clear hc
        go_wp2_with (go_at_call 41; (with_reducible refine HC.out.mono ?_); rintro e w' ⟨rfl, rfl⟩)
        go_roundw
        case rel =>
          first
            | exact ⟨k + 1, _, by omega, by omega, by go_num, HY.out HCC.out, HST.out _ rfl, HBL.out _⟩
            | exact ⟨k + 1, _, by omega, by omega, by go_num, HN.out HCC.out, HO.out, hb⟩
        case measure => simp [intOf]; omega
    · have he := inv1_end hI (by rw [HL.out]; omega)
      subst he
      have hk' : n ≤ k := by omega
      clear hI
      go_wp2
      go_ret
      exact ⟨_, rfl, hown, hb⟩

theorem nextNon_drop (cs : List Int) (k : Nat) (hk : k < cs.length) : nextNon (cs.drop k) = if cs[k] = 5 then nextNon (cs.drop (k + 1)) else cs[k] := by
  rw [List.drop_eq_getElem_cons hk, nextNon]
theorem prevN_succ (cs : List Int) (k : Nat) (hk : k < cs.length) : prevN cs (k + 1) = if cs[k] = 5 then prevN cs k else cs[k] := by
  rw [prevN, List.getD_eq_getElem?_getD, List.getElem?_eq_getElem hk]; rfl

set_option maxRecDepth 100000 in
set_option maxHeartbeats 8000000 in
theorem rule5_any (A : Option Addr) (n c : Nat) (cs : List Int) (w : World) (hr : Rd w 1 A n (ints .i64 cs)) (hn : n ≤ 2097152) :
    Calls Try.prog 32 #[.slice A n c] w fun e w' => ∃ v, e = .returned v ∧ w'.ownsRow w.heap.size 3 1 v n (ints .i64 (rule5L (-1) cs)) ∧ Below w.heap.size w w' := by
  have HL := Lib.hid (show cs.length = n by simpa using hr.1)
  go_enter Try.func32, Try.ntmps32
  go_wp2_with (go_at_call 39; (with_reducible refine (copied_any _ _ _ cs _ hr hn).mono ?_); rintro e w3 ⟨v3, rfl, hown3, hb3⟩; obtain ⟨A3, c3, rfl, _, _⟩ := own_slice hown3)
  go_loopw [4] (fun i wr => ∃ (k : Nat) (done : List Int), k ≤ n ∧ done.length = k ∧ i = .int .i64 k ∧ rule5L (-1) cs = done ++ rule5L (prevN cs k) (cs.drop k) ∧
      wr.ownsRow w.heap.size 3 1 (.slice A3 n c3) n (ints .i64 (done ++ cs.drop k)) ∧ Below w.heap.size w wr)
    (fun i _ => n - (intOf i).toNat)
  case atStart => exact ⟨0, [], Nat.zero_le _, rfl, rfl, by simp [prevN], by simpa using hown3, hb3⟩
  case round =>
    clear hown3 hb3
    obtain ⟨k, done, hk, hd, rfl, hf, hown, hb⟩ := hrel
    by_cases hlt : k < n
    · have hkc : k < cs.length := by rw [HL.out]; exact hlt
      obtain ⟨g, cap, hv, hg1, hg2⟩ := hown.form (by omega)
      injection hv with hA hnn hcc
      subst hA; subst hcc
      obtain ⟨ad, rfl, hcell⟩ := (hr.same hb).2 (by omega)
      have HCELL : Hid (∀ j (h : j < cs.length), wr.cell? (ad.add j) = some (.int .i64 cs[j])) := fun j h => hcell j _ (ints_at h)
      have HP := Lib.hid (prevN_succ cs k hkc)
      have HNN := Lib.hid (nextNon_drop cs k hkc)
      have HX : Hid (∀ y, y = cs[k] → wr.cell? (ad.add k) = some (.int .i64 y)) := fun y hy => hy ▸ HCELL.out k hkc
      rw [List.drop_eq_getElem_cons hkc, rule5_step] at hf
      rw [List.drop_eq_getElem_cons hkc] at hown
      obtain ⟨x, hx⟩ : ∃ x, cs[k] = x := ⟨_, rfl⟩
      rw [hx] at hf hown
      have HXX := Lib.hid hx
      have hck' := HX.out x hx.symm
      rw [hx] at HP HNN
      clear hx hcell hr
      have HST : Hid (∀ y : Int, (wr.setCell ⟨g, k, none⟩ (.int .i64 y)).ownsRow w.heap.size 3 1 (.slice (some ⟨g, 0, none⟩) n c3) n (ints .i64 (done ++ [y] ++ cs.drop (k + 1)))) := fun y => by
        have := (hown.stored k (.int .i64 y)).1
        rwa [ints_set, row_set _ _ _ _ k hd] at this
      have hck := (hown.cellAt k (by omega)).trans (ints_row_at _ _ _ k hd)
      have hfk := hown.frozenAt k
      have HBL := Lib.hid (fun y : Int => hb.setCell (p := ⟨g, k, none⟩) hg1 (.int .i64 y))
      have HO := Lib.hid (show wr.ownsRow w.heap.size 3 1 (.slice (some ⟨g, 0, none⟩) n c3) n (ints .i64 (done ++ [x] ++ cs.drop (k + 1))) from by simpa using hown)
      have HF := Lib.hid hf
      have HD := Lib.hid (show ∀ y : Int, (done ++ [y]).length = k + 1 from fun y => by simp [hd])
      clear hf hown hd
      by_cases hx : x = 5
      · subst hx
        replace HP : Hid (prevN cs (k + 1) = prevN cs k) := HP.out
        replace HNN : Hid (nextNon (cs.drop k) = nextNon (cs.drop (k + 1))) := HNN.out
        have HF2 : Hid (rule5L (-1) cs = done ++ (if prevN cs k = 3 ∨ nextNon (cs.drop k) = 3 then 3 else 5) :: rule5L (prevN cs (k + 1)) (cs.drop (k + 1))) := by
          have h := HF.out
          rw [if_pos rfl, if_pos rfl] at h
          show _ = _
          rw [h, HP.out, HNN.out]
        clear HF HX
        generalize hpk : prevN cs k = P at *
        generalize hnk : nextNon (cs.drop k) = N at *
        have HPK := Lib.hid hpk
        have HNK := Lib.hid hnk
        clear hpk hnk
        go_wp2
        go_loop [5] (fun i => ∃ (e : Nat) (q : Int), e ≤ k + 1 ∧ i = .int .i64 q ∧ q = (e : Int) - 1 ∧ prevN cs e = P) (fun i => (intOf i + 1).toNat)
        case atStart => exact ⟨k + 1, _, Nat.le_refl _, rfl, by omega, HP.out⟩
        case round =>
          obtain ⟨e, q, hek, rfl, hq, hpe⟩ := hrel
          have HPE := Lib.hid hpe
          clear hpe
          rcases e with _ | e
          · obtain rfl : q = -1 := by omega
            clear hq
            have HI3 : Hid (¬ P = 3) := by
              show ¬ _
              rw [← HPE.out, prevN]; decide
            go_wp2
            go_loop [6] (fun i => ∃ f : Nat, k ≤ f ∧ f ≤ n ∧ i = .int .i64 f ∧ nextNon (cs.drop f) = N) (fun i => n - (intOf i).toNat)
            case atStart => exact ⟨k, Nat.le_refl _, by omega, rfl, HNK.out⟩
            case round =>
              obtain ⟨f, hkf, hfn, rfl, hnf⟩ := hrel
              have HNF := Lib.hid hnf
              clear hnf
              by_cases hlf : f < n
              · have hfc : f < cs.length := by rw [HL.out]; exact hlf
                have hcf := HCELL.out f hfc
                have HND := Lib.hid (nextNon_drop cs f hfc)
                by_cases h5 : cs[f] = 5
                · have HN2 : Hid (nextNon (cs.drop (f + 1)) = N) := by
                    have := HND.out
                    rw [if_pos h5, HNF.out] at this
                    exact this.symm
                  rw [h5] at hcf
                  clear h5 HND
                  go_wp2
                  go_round
                  case rel => exact ⟨f + 1, by omega, by omega, by go_num, HN2.out⟩
                  case measure => simp [intOf]; omega
                · have hNe : cs[f] = N := by
                    have := HND.out
                    rw [if_neg h5, HNF.out] at this
                    exact this.symm
                  have h5' : (N == 5) = false := by rw [← hNe]; simpa using h5
                  rw [hNe] at hcf
                  have HJ3 : Hid (N = 3 → True) := fun _ => trivial
                  clear h5 HND hNe
                  have hcases : (P = 3 ∧ N = 3) ∨ (P = 3 ∧ (N == 3) = false) ∨ ((P == 3) = false ∧ N = 3) ∨ ((P == 3) = false ∧ (N == 3) = false) := by
                    by_cases hp3 : P = 3 <;> by_cases hn3 : N = 3 <;> simp [hp3, hn3]
                  rcases hcases with ⟨hp3, hn3⟩ | ⟨hp3, hn3⟩ | ⟨hp3, hn3⟩ | ⟨hp3, hn3⟩
                  all_goals first | (exfalso; exact HI3.out hp3) | skip
                  all_goals
                    have HV : Hid ((if P = 3 ∨ N = 3 then (3 : Int) else 5) = 3 ∧ (P = 3 ∨ N = 3) ∨ (if P = 3 ∨ N = 3 then (3 : Int) else 5) = 5 ∧ ¬ (P = 3 ∨ N = 3)) := by
                      show _ ∨ _
                      by_cases hh : P = 3 ∨ N = 3
                      · exact .inl ⟨if_pos hh, hh⟩
                      · exact .inr ⟨if_neg hh, hh⟩
                    try subst hp3
                    try subst hn3
                    go_wp2
                    go_roundw
                    case rel =>
                      first
                        | exact ⟨k + 1, done ++ [_], by omega, HD.out _, by go_num, by rw [HF2.out, if_pos (by clear HF2 HV HST HBL HD HO; simp_all)]; simp, HST.out _, HBL.out _⟩
                        | exact ⟨k + 1, done ++ [_], by omega, HD.out _, by go_num, by rw [HF2.out, if_neg (by clear HF2 HV HST HBL HD HO; simp_all)]; simp, HO.out, hb⟩
                    case measure => simp [intOf]; omega
              · have HJ3 : Hid (¬ N = 3) := by
                  have : nextNon (cs.drop f) = -1 := by rw [List.drop_eq_nil_of_le (by rw [HL.out]; omega)]; rfl
                  rw [HNF.out] at this
                  show ¬ _
                  omega
                have hfn' : n ≤ f := by omega
                have hfn'' : (n : Int) ≤ (f : Int) := by omega
                have hcases : (P = 3 ∧ N = 3) ∨ (P = 3 ∧ (N == 3) = false) ∨ ((P == 3) = false ∧ N = 3) ∨ ((P == 3) = false ∧ (N == 3) = false) := by
                  by_cases hp3 : P = 3 <;> by_cases hn3 : N = 3 <;> simp [hp3, hn3]
                rcases hcases with ⟨hp3, hn3⟩ | ⟨hp3, hn3⟩ | ⟨hp3, hn3⟩ | ⟨hp3, hn3⟩
                all_goals first | (exfalso; exact HI3.out hp3) | (exfalso; exact HJ3.out hn3) | skip
                all_goals
                  have HV : Hid ((if P = 3 ∨ N = 3 then (3 : Int) else 5) = 3 ∧ (P = 3 ∨ N = 3) ∨ (if P = 3 ∨ N = 3 then (3 : Int) else 5) = 5 ∧ ¬ (P = 3 ∨ N = 3)) := by
                    show _ ∨ _
                    by_cases hh : P = 3 ∨ N = 3
                    · exact .inl ⟨if_pos hh, hh⟩
                    · exact .inr ⟨if_neg hh, hh⟩
                  try subst hp3
                  try subst hn3
                  go_wp2
                  go_roundw
                  case rel =>
                    first
                      | exact ⟨k + 1, done ++ [_], by omega, HD.out _, by go_num, by rw [HF2.out, if_pos (by clear HF2 HV HST HBL HD HO; simp_all)]; simp, HST.out _, HBL.out _⟩
                      | exact ⟨k + 1, done ++ [_], by omega, HD.out _, by go_num, by rw [HF2.out, if_neg (by clear HF2 HV HST HBL HD HO; simp_all)]; simp, HO.out, hb⟩
                  case measure => simp [intOf]; omega
          · obtain rfl : q = (e : Int) := by omega
            clear hq
            have hec : e < cs.length := by rw [HL.out]; omega
            have hen : e < n := by omega
            have hce := HCELL.out e hec
            have HPD := Lib.hid (prevN_succ cs e hec)
            by_cases h5 : cs[e] = 5
            · have HP2 : Hid (prevN cs e = P) := by
                have := HPD.out
                rw [if_pos h5, HPE.out] at this
                exact this.symm
              rw [h5] at hce
              clear h5 HPD
              go_wp2
              go_round
              case rel => exact ⟨e, _, by omega, rfl, rfl, HP2.out⟩
              case measure => simp [intOf] <;> omega
            · have hPe : cs[e] = P := by
                have := HPD.out
                rw [if_neg h5, HPE.out] at this
                exact this.symm
              have hp5 : (P == 5) = false := by rw [← hPe]; simpa using h5
              rw [hPe] at hce
              clear h5 HPD hPe
              go_wp2
              go_loop [6] (fun i => ∃ f : Nat, k ≤ f ∧ f ≤ n ∧ i = .int .i64 f ∧ nextNon (cs.drop f) = N) (fun i => n - (intOf i).toNat)
              case atStart => exact ⟨k, Nat.le_refl _, by omega, rfl, HNK.out⟩
              case round =>
                obtain ⟨f, hkf, hfn, rfl, hnf⟩ := hrel
                have HNF := Lib.hid hnf
                clear hnf
                by_cases hlf : f < n
                · have hfc : f < cs.length := by rw [HL.out]; exact hlf
                  have hcf := HCELL.out f hfc
                  have HND := Lib.hid (nextNon_drop cs f hfc)
                  by_cases h5 : cs[f] = 5
                  · have HN2 : Hid (nextNon (cs.drop (f + 1)) = N) := by
                      have := HND.out
                      rw [if_pos h5, HNF.out] at this
                      exact this.symm
                    rw [h5] at hcf
                    clear h5 HND
                    go_wp2
                    go_round
                    case rel => exact ⟨f + 1, by omega, by omega, by go_num, HN2.out⟩
                    case measure => simp [intOf]; omega
                  · have hNe : cs[f] = N := by
                      have := HND.out
                      rw [if_neg h5, HNF.out] at this
                      exact this.symm
                    have h5' : (N == 5) = false := by rw [← hNe]; simpa using h5
                    rw [hNe] at hcf
                    have HJ3 : Hid (N = 3 → True) := fun _ => trivial
                    clear h5 HND hNe
                    have hcases : (P = 3 ∧ N = 3) ∨ (P = 3 ∧ (N == 3) = false) ∨ ((P == 3) = false ∧ N = 3) ∨ ((P == 3) = false ∧ (N == 3) = false) := by
                      by_cases hp3 : P = 3 <;> by_cases hn3 : N = 3 <;> simp [hp3, hn3]
                    rcases hcases with ⟨hp3, hn3⟩ | ⟨hp3, hn3⟩ | ⟨hp3, hn3⟩ | ⟨hp3, hn3⟩
                    all_goals
                      have HV : Hid ((if P = 3 ∨ N = 3 then (3 : Int) else 5) = 3 ∧ (P = 3 ∨ N = 3) ∨ (if P = 3 ∨ N = 3 then (3 : Int) else 5) = 5 ∧ ¬ (P = 3 ∨ N = 3)) := by
                        show _ ∨ _
                        by_cases hh : P = 3 ∨ N = 3
                        · exact .inl ⟨if_pos hh, hh⟩
                        · exact .inr ⟨if_neg hh, hh⟩
                      try subst hp3
                      try subst hn3
                      go_wp2
                      go_roundw
                      case rel =>
                        first
                          | exact ⟨k + 1, done ++ [_], by omega, HD.out _, by go_num, by rw [HF2.out, if_pos (by clear HF2 HV HST HBL HD HO; simp_all)]; simp, HST.out _, HBL.out _⟩
                          | exact ⟨k + 1, done ++ [_], by omega, HD.out _, by go_num, by rw [HF2.out, if_neg (by clear HF2 HV HST HBL HD HO; simp_all)]; simp, HO.out, hb⟩
                      case measure => simp [intOf]; omega
                · have HJ3 : Hid (¬ N = 3) := by
                    have : nextNon (cs.drop f) = -1 := by rw [List.drop_eq_nil_of_le (by rw [HL.out]; omega)]; rfl
                    rw [HNF.out] at this
                    show ¬ _
                    omega
                  have hfn' : n ≤ f := by omega
                  have hfn'' : (n : Int) ≤ (f : Int) := by omega
                  have hcases : (P = 3 ∧ N = 3) ∨ (P = 3 ∧ (N == 3) = false) ∨ ((P == 3) = false ∧ N = 3) ∨ ((P == 3) = false ∧ (N == 3) = false) := by
                    by_cases hp3 : P = 3 <;> by_cases hn3 : N = 3 <;> simp [hp3, hn3]
                  rcases hcases with ⟨hp3, hn3⟩ | ⟨hp3, hn3⟩ | ⟨hp3, hn3⟩ | ⟨hp3, hn3⟩
                  all_goals first | (exfalso; exact HJ3.out hn3) | skip
                  all_goals
                    have HV : Hid ((if P = 3 ∨ N = 3 then (3 : Int) else 5) = 3 ∧ (P = 3 ∨ N = 3) ∨ (if P = 3 ∨ N = 3 then (3 : Int) else 5) = 5 ∧ ¬ (P = 3 ∨ N = 3)) := by
                      show _ ∨ _
                      by_cases hh : P = 3 ∨ N = 3
                      · exact .inl ⟨if_pos hh, hh⟩
                      · exact .inr ⟨if_neg hh, hh⟩
                    try subst hp3
                    try subst hn3
                    go_wp2
                    go_roundw
                    case rel =>
                      first
                        | exact ⟨k + 1, done ++ [_], by omega, HD.out _, by go_num, by rw [HF2.out, if_pos (by clear HF2 HV HST HBL HD HO; simp_all)]; simp, HST.out _, HBL.out _⟩
                        | exact ⟨k + 1, done ++ [_], by omega, HD.out _, by go_num, by rw [HF2.out, if_neg (by clear HF2 HV HST HBL HD HO; simp_all)]; simp, HO.out, hb⟩
                    case measure => simp [intOf]; omega
      · have hx' : (x != 5) = true := by simpa using hx
        have HX5 := Lib.hid hx
        clear hx
        go_wp2
        go_roundw
        case rel => exact ⟨k + 1, done ++ [x], by omega, HD.out _, by go_num, by rw [HF.out, HP.out, if_neg HX5.out, if_neg HX5.out]; simp, HO.out, hb⟩
        case measure => simp [intOf]; omega
    · obtain rfl : n = k := by omega
      go_wp2
      go_ret
      rw [List.drop_eq_nil_of_le (by rw [HL.out]; omega)] at hf hown
      refine ⟨_, rfl, ?_, hb⟩
      rw [hf]; simpa [rule5L] using hown

theorem own_base {w : World} {base base' : Nat} {e : TypeId} {s n : Nat} {v : Value} {xs : List Value} (h : w.ownsRow base e s v n xs) (hb : base' ≤ base) : w.ownsRow base' e s v n xs := by
  refine ⟨h.1, ?_⟩
  rcases h.2 with hn | ⟨g, cap, cur, rfl, hbb, rest⟩
  · exact .inl hn
  · exact .inr ⟨g, cap, cur, rfl, Nat.le_trans hb hbb, rest⟩

set_option maxHeartbeats 1000000 in
theorem weakref_any (A : Option Addr) (n c : Nat) (cs : List Int) (sos : Int) (w : World) (hr : Rd w 1 A n (ints .i64 cs)) (hn : n ≤ 2097152) :
    Calls Try.prog 23 #[.slice A n c, .int .i64 sos] w fun e w' => ∃ v, e = .returned v ∧ w'.ownsRow w.heap.size 3 1 v n (ints .i64 (refL cs sos)) ∧ Below w.heap.size w w' := by
  go_enter Try.func23, Try.ntmps23
  go_wp2_with (first
    | (go_at_call 36; (with_reducible refine (rule1_any _ _ _ cs sos _ hr hn).mono ?_); rintro e w1 ⟨v1, rfl, hown1, hb1⟩; obtain ⟨A1, c1, rfl, _, hl1⟩ := own_slice hown1; clear hown1)
    | (go_at_call 35; (with_reducible refine (rule2_any _ _ _ _ sos _ hl1 hn).mono ?_); rintro e w2 ⟨v2, rfl, hown2, hb2⟩; obtain ⟨A2, c2, rfl, _, hl2⟩ := own_slice hown2; have hB2 := hb1.trans (hb2.mono hb1.size); clear hown2 hb2)
    | (go_at_call 34; (with_reducible refine (rule3_any _ _ _ _ _ hl2 hn).mono ?_); rintro e w3 ⟨v3, rfl, hown3, hb3⟩; obtain ⟨A3, c3, rfl, _, hl3⟩ := own_slice hown3; have hB3 := hB2.trans (hb3.mono hB2.size); clear hown3 hb3)
    | (go_at_call 33; (with_reducible refine (rule4_any _ _ _ _ _ hl3 hn).mono ?_); rintro e w4 ⟨v4, rfl, hown4, hb4⟩; obtain ⟨A4, c4, rfl, _, hl4⟩ := own_slice hown4; have hB4 := hB3.trans (hb4.mono hB3.size); clear hown4 hb4)
    | (go_at_call 32; (with_reducible refine (rule5_any _ _ _ _ _ hl4 hn).mono ?_); rintro e w5 ⟨v5, rfl, hown5, hb5⟩; obtain ⟨A5, c5, rfl, _, hl5⟩ := own_slice hown5; have hB5 := hB4.trans (hb5.mono hB4.size); clear hown5 hb5)
    | (go_at_call 31; (with_reducible refine (rule6_any _ _ _ _ _ hl5 hn).mono ?_); rintro e w6 ⟨v6, rfl, hown6, hb6⟩; obtain ⟨A6, c6, rfl, _, hl6⟩ := own_slice hown6; have hB6 := hB5.trans (hb6.mono hB5.size); clear hown6 hb6)
    | (go_at_call 30; (with_reducible refine (rule7_any _ _ _ _ sos _ hl6 hn).mono ?_); rintro e w7 ⟨v7, rfl, hown7, hb7⟩; have hB7 := hB6.trans (hb7.mono hB6.size)))
  go_ret
  refine ⟨_, rfl, ?_, hB7⟩
  exact own_base hown7 hB6.size

end Go.Proofs.Ytmonkeencbhcmaa.wk
