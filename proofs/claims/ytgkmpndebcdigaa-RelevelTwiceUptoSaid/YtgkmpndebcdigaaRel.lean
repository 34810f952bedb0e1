/-
  Layer 24: what relevel.Of computes, in plain Lean; its contract over the program.
-/
import Derived.Test.YtgkmpndebcdigaaRlf
namespace Go.Proofs.Ytgkmpndebcdigaa
open Go.RowKit

/-- is what stands ahead of some classes brought back? -/
def backL : List Int → Bool
  | [] => true
  | c :: r => if sepa c then true else if blank c then backL r else false

/-- relevel.Of -/
def relL : List Int → List Int → List Int → List Int
  | l :: ls, c :: cs, b :: bs => (if backL (c :: cs) && l != -1 then b else l) :: relL ls cs bs
  | _, _, _ => []

theorem relL_length (ls cs bs : List Int) (h1 : cs.length = ls.length) (h2 : bs.length = ls.length) : (relL ls cs bs).length = ls.length := by
  induction ls generalizing cs bs with
  | nil => rfl
  | cons l ls ih =>
    match cs, bs, h1, h2 with
    | c :: cs, b :: bs, h1, h2 => simp only [relL, List.length_cons]; rw [ih cs bs (by simpa using h1) (by simpa using h2)]

def relOf (ls cs bs : List Int) : List Int := if cs.length = ls.length ∧ bs.length = ls.length then relL ls cs bs else ls

theorem take_set {α : Type} (l r : List α) (m : Nat) (v : α) (h : m < l.length) : (l.take (m + 1) ++ r).set m v = l.take m ++ v :: r := by
  rw [take_succ_ l m h, List.append_assoc, List.set_append, if_neg (by simp; omega)]
  simp [Nat.min_eq_left (Nat.le_of_lt h)]

theorem relL_drop (ls cs bs : List Int) (k : Nat) (h0 : k < ls.length) (h1 : cs.length = ls.length) (h2 : bs.length = ls.length) :
    relL (ls.drop k) (cs.drop k) (bs.drop k) = (if backL (cs.drop k) && ls[k] != -1 then bs[k] else ls[k]) :: relL (ls.drop (k + 1)) (cs.drop (k + 1)) (bs.drop (k + 1)) ∧
    backL (cs.drop k) = (if sepa cs[k] then true else if blank cs[k] then backL (cs.drop (k + 1)) else false) := by
  rw [List.drop_eq_getElem_cons h0, List.drop_eq_getElem_cons (show k < cs.length by omega), List.drop_eq_getElem_cons (show k < bs.length by omega)]
  exact ⟨rfl, rfl⟩

set_option maxRecDepth 100000 in
set_option maxHeartbeats 2000000 in
theorem rel_any (A : Option Addr) (n c : Nat) (A1 : Option Addr) (n1 c1 : Nat) (A2 : Option Addr) (n2 c2 : Nat) (ls cs bs : List Int) (w : World) (hr : Rd w 1 A n (ints .i64 ls)) (hr1 : Rd w 1 A1 n1 (ints .u8 cs)) (hr2 : Rd w 1 A2 n2 (ints .i64 bs))
    (hn : n ≤ 2097152) (hn1 : n1 ≤ 2097152) (hn2 : n2 ≤ 2097152) :
    Calls Try.prog 22 #[.slice A n c, .slice A1 n1 c1, .slice A2 n2 c2] w fun e w' => ∃ v, e = .returned v ∧ w'.ownsRow w.heap.size 3 1 v n (ints .i64 (relOf ls cs bs)) ∧ Below w.heap.size w w' := by
  obtain ⟨i0, hi, hz0, hz1, hz2⟩ := info_parts info3
  have HL := Lib.hid (show ls.length = n by simpa using hr.1)
  have HL1 := Lib.hid (show cs.length = n1 by simpa using hr1.1)
  have HL2 := Lib.hid (show bs.length = n2 by simpa using hr2.1)
  by_cases he : n1 = n ∧ n2 = n
  · obtain ⟨rfl, rfl⟩ := he
    go_enter Try.func22, Try.ntmps22
    go_wp2_with (first | (at_builtin; refine wpList_append_rd rfl (.const (.slice none 0 0)) (.tmp 11) 26 rfl w.heap.size w w.heap.size 3 i0 (.int .i64 0) 1 8 Try.underlying26 hi hz0 hz1 hz2 rfl (by decide) _ _ _ rfl (World.ownsRow_nil _ _ _ _) _ _ _ _ rfl hr ints_one (Below.refl _ _) (Nat.le_refl _) (Nat.le_refl _) (Nat.le_refl _) (by omega) (by omega) ?_; intro v3 w3 hown3 hb3 u1 u2; clear u1 u2; simp only [Nat.zero_add, List.nil_append] at hown3; obtain ⟨A3, c3, rfl, _, _⟩ := own_slice hown3))
    have hout0 : w3.ownsRow w.heap.size 3 1 (.slice A3 n2 c3) n2 (ints .i64 (ls.take n2 ++ relL (ls.drop n2) (cs.drop n2) (bs.drop n2))) := by
      rw [List.drop_eq_nil_of_le (by rw [HL.out]; omega), List.take_of_length_le (by rw [HL.out]; omega)]
      simpa [relL] using hown3
    go_loopw [8, 9] (fun b i wr => ∃ (j : Nat) (q : Int), j ≤ n2 ∧ i = .int .i64 q ∧ q = (j : Int) - 1 ∧ b = .bool (backL (cs.drop j)) ∧
        wr.ownsRow w.heap.size 3 1 (.slice A3 n2 c3) n2 (ints .i64 (ls.take j ++ relL (ls.drop j) (cs.drop j) (bs.drop j))) ∧ Below w.heap.size w wr)
      (fun _ i _ => (intOf i + 1).toNat)
    case atStart => exact ⟨n2, _, Nat.le_refl _, rfl, rfl, by rw [List.drop_eq_nil_of_le (by rw [HL1.out]; omega)]; rfl, hout0, hb3⟩
    case round =>
      clear hout0 hown3
      obtain ⟨j, q, hj, rfl, hq, rfl, hout, hb⟩ := hrel
      rcases j with _ | m
      · obtain rfl : q = -1 := by omega
        clear hq
        go_wp2
        go_ret
        refine ⟨_, rfl, ?_, hb⟩
        rw [relOf, if_pos ⟨by rw [HL1.out, HL.out], by rw [HL2.out, HL.out]⟩]
        simpa using hout
      · obtain rfl : q = (m : Int) := by omega
        clear hq
        have hm1 : m < cs.length := by rw [HL1.out]; omega
        have hm0 : m < ls.length := by rw [HL.out]; omega
        have hm2 : m < bs.length := by rw [HL2.out]; omega
        obtain ⟨ad1, rfl, hc1⟩ := (hr1.same hb).cell_ (ints_at (K := .u8) hm1)
        obtain ⟨ad2, rfl, hc2⟩ := (hr2.same hb).cell_ (ints_at (K := .i64) hm2)
        obtain ⟨g, cap, hv, hg1, hg2⟩ := hout.form (by omega)
        injection hv with hA hnn hcc
        subst hA; subst hcc
        obtain ⟨R1, R2⟩ := relL_drop ls cs bs m hm0 (by rw [HL1.out, HL.out]) (by rw [HL2.out, HL.out])
        have HS := Lib.hid (take_set ls (relL (ls.drop (m + 1)) (cs.drop (m + 1)) (bs.drop (m + 1))) m bs[m] hm0)
        have HT : Hid (ls.take (m + 1) ++ relL (ls.drop (m + 1)) (cs.drop (m + 1)) (bs.drop (m + 1)) = ls.take m ++ ls[m] :: relL (ls.drop (m + 1)) (cs.drop (m + 1)) (bs.drop (m + 1))) := by
          show _ = _
          rw [take_succ_ ls m hm0, List.append_assoc]; rfl
        have hco := (hout.cellAt m (by omega)).trans (show _ = some (Value.int .i64 ls[m]) from by
          rw [HT.out]; simp [ints, Nat.min_eq_left (Nat.le_of_lt hm0)])
        have hfo := hout.frozenAt m
        obtain ⟨ho1, hg'⟩ := hout.stored m (.int .i64 bs[m])
        rw [ints_set, HS.out] at ho1
        rw [HT.out] at hout
        have HR1 := Lib.hid R1
        have HR2 := Lib.hid R2
        have hb' : Below w.heap.size w (wr.setCell ⟨g, m, none⟩ (.int .i64 bs[m])) := hb.setCell hg1 _
        clear R1 R2 hr hr1 hr2 HS HT hg'
        generalize cs[m] = x at *
        generalize ls[m] = l at *
        generalize bs[m] = y at *
        generalize backL (cs.drop (m + 1)) = bk at *
        generalize relL (ls.drop (m + 1)) (cs.drop (m + 1)) (bs.drop (m + 1)) = R at *
        obtain ⟨lb, hlb⟩ : ∃ b, (l != -1) = b := ⟨_, rfl⟩
        have hcases : x = 11 ∨ x = 10 ∨ ((x == 11) = false ∧ (x == 10) = false ∧ blank x = true) ∨ ((x == 11) = false ∧ (x == 10) = false ∧ blank x = false) := by
          cases blank x <;> simp <;> omega
        rcases hcases with rfl | rfl | ⟨h11, h10, hbl⟩ | ⟨h11, h10, hbl⟩ <;> cases bk <;> cases lb
        all_goals go_wp2_with (go_at_call 31; refine (rblank_any _ _).mono ?_; rintro e w' ⟨rfl, rfl⟩)
        all_goals
          go_roundw
          case rel =>
            refine ⟨m, _, by omega, rfl, rfl, ?_, ?_, ?_⟩
            · rw [HR2.out]; simp [sepa, *]
            · rw [HR1.out]
              by_cases hst : (backL (cs.drop m) && l != -1) = true
              · rw [if_pos hst]
                first | exact ho1 | (exfalso; have h2 := HR2.out; simp_all [sepa])
              · rw [if_neg hst]
                first | exact hout | (exfalso; have h2 := HR2.out; simp_all [sepa])
            · first | exact hb | exact hb'
          case measure => simp [intOf] <;> omega
  · go_enter Try.func22, Try.ntmps22
    go_wp2_with (first | (at_builtin; refine wpList_append_rd rfl (.const (.slice none 0 0)) (.tmp 11) 26 rfl w.heap.size w w.heap.size 3 i0 (.int .i64 0) 1 8 Try.underlying26 hi hz0 hz1 hz2 rfl (by decide) _ _ _ rfl (World.ownsRow_nil _ _ _ _) _ _ _ _ rfl hr ints_one (Below.refl _ _) (Nat.le_refl _) (Nat.le_refl _) (Nat.le_refl _) (by omega) (by omega) ?_; intro v3 w3 hown3 hb3 u1 u2; clear u1 u2; simp only [Nat.zero_add, List.nil_append] at hown3; obtain ⟨A3, c3, rfl, _, _⟩ := own_slice hown3))
    all_goals go_ret
    all_goals exact ⟨_, rfl, by rw [relOf, if_neg (by rw [HL.out, HL1.out, HL2.out]; exact he)]; exact hown3, hb3⟩
end Go.Proofs.Ytgkmpndebcdigaa
