/-
  Layer 20: the contract of lbone.Units over the program.
-/
import Derived.Test.YtbobhcffbgnfkaaLru
import Derived.Test.YtbobhcffbgnfkaaLcl
namespace Go.Proofs.Ytbobhcffbgnfkaa.lr
open Go.RowKit lb

def mark (c : Int) : Bool := c == 3 || c == 4
def takes (c : Int) : Bool := !(c == 5 || c == 6 || c == 7 || c == 8 || c == 9 || c == 10)
theorem mark_any (c : Int) (w : World) : Calls Try.prog 19 #[.int .u8 c] w fun e w' => e = .returned (.bool (mark c)) ∧ w = w' := by
  go_enter Try.func19, Try.ntmps19
  go_wp2
  all_goals go_ret
  all_goals (refine ⟨?_, rfl⟩; simp_all [mark])
theorem takes_any (c : Int) (w : World) : Calls Try.prog 20 #[.int .u8 c] w fun e w' => e = .returned (.bool (takes c)) ∧ w = w' := by
  go_enter Try.func20, Try.ntmps20
  go_wp2
  all_goals go_ret
  all_goals (refine ⟨ret_bool ?_, rfl⟩; simp_all [takes])

/-- the class that a place counts as, where marks are joined -/
def seen (cs widths : List Int) (k : Nat) : Int := if cs.getD k 0 = 40 ∧ widths[k]? = some 0 then 3 else cs.getD k 0
def unitStep (c : Int) (k : Nat) (us : List U) : List U :=
  match us.getLast? with
  | some l =>
    if mark c && takes l.cls then us.dropLast ++ [⟨l.frm, k + 1, l.cls, c == 4⟩]
    else us ++ [⟨k, k + 1, if mark c then 1 else cls c, mark c && c == 4⟩]
  | none => us ++ [⟨k, k + 1, if mark c then 1 else cls c, mark c && c == 4⟩]
def unitsTo (cs widths : List Int) : Nat → List U
  | 0 => []
  | k + 1 => unitStep (seen cs widths k) k (unitsTo cs widths k)
def units (cs widths : List Int) : List U := unitsTo cs widths cs.length
theorem unitsTo_length (cs widths : List Int) (k : Nat) : (unitsTo cs widths k).length ≤ k := by
  induction k with
  | zero => simp [unitsTo]
  | succ k ih =>
    rw [unitsTo, unitStep]
    split
    · split
      · simp; omega
      · simp; omega
    · simp; omega
theorem cls_range (c : Int) (h : 0 ≤ c ∧ c ≤ 255) : 0 ≤ (if mark c then 1 else cls c) ∧ (if mark c then 1 else cls c) ≤ 255 := by
  split
  · omega
  · unfold cls
    split
    · omega
    · split <;> omega
theorem unitsTo_range (cs widths : List Int) (h : ∀ z ∈ cs, 0 ≤ z ∧ z ≤ 255) (k : Nat) : ∀ u ∈ unitsTo cs widths k, 0 ≤ u.cls ∧ u.cls ≤ 255 := by
  have hs : ∀ k, 0 ≤ seen cs widths k ∧ seen cs widths k ≤ 255 := by
    intro k
    have hd : 0 ≤ cs.getD k 0 ∧ cs.getD k 0 ≤ 255 := by
      rw [List.getD_eq_getElem?_getD]
      by_cases hk : k < cs.length
      · rw [List.getElem?_eq_getElem hk]; exact h _ (List.getElem_mem hk)
      · rw [List.getElem?_eq_none (by omega)]; decide
    unfold seen
    split
    · omega
    · exact hd
  induction k with
  | zero => intro u hu; simp [unitsTo] at hu
  | succ k ih =>
    intro u hu
    rw [unitsTo, unitStep] at hu
    have hc := cls_range (seen cs widths k) (hs k)
    split at hu
    · rename_i l hl
      have hlm := ih l (List.mem_of_getLast? hl)
      split at hu
      · rw [List.mem_append, List.mem_singleton] at hu
        rcases hu with hu | rfl
        · exact ih u (List.dropLast_subset _ hu)
        · exact hlm
      · rw [List.mem_append, List.mem_singleton] at hu
        rcases hu with hu | rfl
        · exact ih u hu
        · exact hc
    · rw [List.mem_append, List.mem_singleton] at hu
      rcases hu with hu | rfl
      · exact ih u hu
      · exact hc

theorem mark_is (c : Int) (b : Bool) (h : mark c = b) (w : World) : Calls Try.prog 19 #[.int .u8 c] w fun e w' => e = .returned (.bool b) ∧ w = w' :=
  (mark_any c w).mono fun _ _ ⟨he, hw⟩ => ⟨by rw [he, h], hw⟩
theorem takes_is (c : Int) (b : Bool) (h : takes c = b) (w : World) : Calls Try.prog 20 #[.int .u8 c] w fun e w' => e = .returned (.bool b) ∧ w = w' :=
  (takes_any c w).mono fun _ _ ⟨he, hw⟩ => ⟨by rw [he, h], hw⟩

set_option maxRecDepth 100000 in
set_option maxHeartbeats 4000000 in
theorem units_any (A : Option Addr) (n c : Nat) (A1 : Option Addr) (n1 c1 : Nat) (cs ws : List Int) (w : World) (hr : Rd w 1 A n (ints .u8 cs)) (hr1 : Rd w 1 A1 n1 (ints .i64 ws)) (hn : n ≤ 2097152) :
    Calls Try.prog 15 #[.slice A n c, .slice A1 n1 c1] w fun e w' => ∃ v, e = .returned v ∧ w'.ownsRow w.heap.size 31 4 v (units cs ws).length (ucells (units cs ws)) ∧ Below w.heap.size w w' := by
  obtain ⟨i0, hi, hz0, hz1, hz2⟩ := info_parts infoU
  have HL := Lib.hid (show cs.length = n by simpa using hr.1)
  have HL1 := Lib.hid (show ws.length = n1 by simpa using hr1.1)
  go_enter Try.func15, Try.ntmps15
  go_wp2
  go_loopw [5, 11] (fun v i wr => ∃ k : Nat, k ≤ n ∧ i = .int .i64 k ∧ wr.ownsRow w.heap.size 31 4 v (unitsTo cs ws k).length (ucells (unitsTo cs ws k)) ∧ Below w.heap.size w wr)
    (fun _ i _ => n - (intOf i).toNat)
  case atStart => exact ⟨0, Nat.zero_le _, rfl, World.ownsRow_nil _ _ _ _, Below.refl _ _⟩
  case round =>
    obtain ⟨k, hk, rfl, hown, hb⟩ := hrel
    by_cases hlt : k < n
    · have hkz : k < cs.length := by rw [HL.out]; exact hlt
      obtain ⟨ad, rfl, hc⟩ := (hr.same hb).cell_ (ints_at (K := .u8) hkz)
      have hlen := unitsTo_length cs ws k
      have HS := Lib.hid (show unitsTo cs ws (k + 1) = unitStep (seen cs ws k) k (unitsTo cs ws k) from rfl)
      have hsn : seen cs ws k = if cs[k] = 40 ∧ ws[k]? = some 0 then 3 else cs[k] := by
        rw [seen, List.getD_eq_getElem?_getD, List.getElem?_eq_getElem hkz]; rfl
      have hsee : ((cs[k] == 40) = false ∧ seen cs ws k = cs[k]) ∨ (cs[k] = 40 ∧ seen cs ws k = 40 ∧ n1 ≤ k) ∨
          (cs[k] = 40 ∧ k < n1 ∧ ∃ y, ws[k]? = some y ∧ (y == 0) = false ∧ seen cs ws k = 40) ∨ (cs[k] = 40 ∧ k < n1 ∧ ws[k]? = some 0 ∧ seen cs ws k = 3) := by
        by_cases h40 : cs[k] = 40
        · rcases Nat.lt_or_ge k n1 with h1 | h1
          · have hkw : k < ws.length := by rw [HL1.out]; exact h1
            by_cases hy : ws[k] = 0
            · exact .inr (.inr (.inr ⟨h40, h1, by rw [List.getElem?_eq_getElem hkw, hy], by rw [hsn, if_pos ⟨h40, by rw [List.getElem?_eq_getElem hkw, hy]⟩]⟩))
            · exact .inr (.inr (.inl ⟨h40, h1, ws[k], List.getElem?_eq_getElem hkw, by simpa using hy, by rw [hsn, if_neg (by rw [List.getElem?_eq_getElem hkw]; simp [hy]), h40]⟩))
          · exact .inr (.inl ⟨h40, by rw [hsn, if_neg (by rw [List.getElem?_eq_none (by rw [HL1.out]; exact h1)]; simp), h40], h1⟩)
        · exact .inl ⟨by simpa using h40, by rw [hsn, if_neg (fun e => h40 e.1)]⟩
      have hr1' := hr1.same hb
      clear hr hr1 hsn
      generalize cs[k] = x at *
      generalize unitsTo cs ws k = us at *
      generalize seen cs ws k = s at *
      have hws : ∀ y, ws[k]? = some y → k < n1 → ∃ ad, A1 = some ad ∧ wr.cell? (ad.add k) = some (.int .i64 y) := fun y hy _ => hr1'.cell_ (by simp [ints, hy])
      have hus : mark s = false ∨ (mark s = true ∧ us = []) ∨ (mark s = true ∧ ∃ r u, us = r ++ [u] ∧ takes u.cls = true) ∨ (mark s = true ∧ ∃ r u, us = r ++ [u] ∧ takes u.cls = false) := by
        cases hm : mark s
        · exact .inl rfl
        · right
          rcases us.eq_nil_or_concat with h | ⟨r, u, h⟩
          · exact .inl ⟨rfl, h⟩
          · cases ht : takes u.cls
            · exact .inr (.inr ⟨rfl, r, u, by simpa using h, ht⟩)
            · exact .inr (.inl ⟨rfl, r, u, by simpa using h, ht⟩)
      rcases hus with hm | ⟨hm, rfl⟩ | ⟨hm, r, u, rfl, ht⟩ | ⟨hm, r, u, rfl, ht⟩
      · -- no mark
        have e : unitStep s k us = us ++ [⟨k, k + 1, cls s, false⟩] := by
          rw [unitStep]; split <;> simp [hm]
        have HE := Lib.hid (HS.out.trans e)
        clear HS e
        obtain ⟨A5, c5, rfl, hc5, _⟩ := own_slice hown
        rcases hsee with ⟨h40, rfl⟩ | ⟨rfl, rfl, h1⟩ | ⟨rfl, h1, y, hy, hy0, rfl⟩ | ⟨rfl, h1, hy, rfl⟩
        rotate_right
        · simp [mark] at hm
        all_goals first | (obtain ⟨ad1, rfl, hcy⟩ := hws y hy h1; clear hy) | skip
        all_goals clear hws hr1'
        all_goals
          go_wp2_with (first
            | (go_at_call 19; refine (mark_is _ _ hm _).mono ?_; rintro e w' ⟨rfl, rfl⟩)
            | (go_at_call 21; refine (cls_any _ _).mono ?_; rintro e w' ⟨rfl, rfl⟩)
            | (at_builtin; refine wpList_append_new rfl (.tmp 33) (.tmp 40) 25 rfl w.heap.size w w.heap.size 31 i0 _ 4 24 Try.underlying25 hi hz0 hz1 hz2 rfl (by decide) _ _ _ rfl hown _ _ rfl u_one _ rfl (by simp) hb hb.size (Nat.le_refl _) hb.size (by omega) (by omega) ?_; intro v' w1 hown1 hb1 _ _))
          go_roundw
          case rel => exact ⟨k + 1, by omega, by go_num, by rw [HE.out]; simpa [ucells, U.cells] using hown1, hb1⟩
          case measure => simp [intOf]; omega
      · -- a mark, and no unit yet
        have e : unitStep s k [] = [⟨k, k + 1, 1, s == 4⟩] := by simp [unitStep, hm]
        have HE := Lib.hid (HS.out.trans e)
        clear HS e
        obtain ⟨A5, c5, rfl, hc5, _⟩ := own_slice hown
        rcases hsee with ⟨h40, rfl⟩ | ⟨rfl, rfl, h1⟩ | ⟨rfl, h1, y, hy, hy0, rfl⟩ | ⟨rfl, h1, hy, rfl⟩
        rotate_left
        · simp [mark] at hm
        · simp [mark] at hm
        all_goals first | (obtain ⟨ad1, rfl, hcy⟩ := hws 0 hy h1; clear hy) | skip
        all_goals clear hws hr1'
        all_goals
          go_wp2_with (first
            | (go_at_call 19; refine (mark_is _ _ hm _).mono ?_; rintro e w' ⟨rfl, rfl⟩)
            | (at_builtin; refine wpList_append_new rfl (.tmp 75) (.tmp 82) 25 rfl w.heap.size w w.heap.size 31 i0 _ 4 24 Try.underlying25 hi hz0 hz1 hz2 rfl (by decide) _ _ _ rfl hown _ _ rfl u_one _ rfl (by simp) hb hb.size (Nat.le_refl _) hb.size (by simp) (by omega) ?_; intro v' w1 hown1 hb1 _ _))
          go_roundw
          case rel => exact ⟨k + 1, by omega, by go_num, by rw [HE.out]; simpa [ucells, U.cells] using hown1, hb1⟩
          case measure => simp [intOf]; omega
      · -- a mark that is joined
        have e : unitStep s k (r ++ [u]) = r ++ [⟨u.frm, k + 1, u.cls, s == 4⟩] := by simp [unitStep, hm, ht]
        have HE := Lib.hid (HS.out.trans e)
        clear HS e
        simp only [List.length_append, List.length_singleton] at hown hlen
        obtain ⟨g, c5, rfl, hg1, hg2⟩ := hown.form (by omega)
        have hu2 := (hown.cellAt (r.length * 4 + 2) (by omega)).trans (ucells_at (us := r ++ [u]) (k := r.length) (u := u) (by simp) 2 (by omega))
        have hu1 := (hown.cellAt (r.length * 4 + 1) (by omega)).trans (ucells_at (us := r ++ [u]) (k := r.length) (u := u) (by simp) 1 (by omega))
        have hf1 := hown.frozenAt (r.length * 4 + 1)
        have ho1 := (hown.stored (r.length * 4 + 1) (.int .i64 ((k : Int) + 1))).1
        have hu3 := (ho1.cellAt (r.length * 4 + 3) (by omega)).trans (show _ = some (Value.bool u.joined) from by
          rw [List.getElem?_set_ne (by omega)]; exact ucells_at (us := r ++ [u]) (k := r.length) (u := u) (by simp) 3 (by omega))
        have hf3 := ho1.frozenAt (r.length * 4 + 3)
        have ho2 := (ho1.stored (r.length * 4 + 3) (.bool (s == 4))).1
        have hset : ((ucells (r ++ [u])).set (r.length * 4 + 1) (.int .i64 ((k : Int) + 1))).set (r.length * 4 + 3) (.bool (s == 4)) = ucells (r ++ [⟨u.frm, k + 1, u.cls, s == 4⟩]) := by
          rw [ucells_append, ucells_append, List.set_append, if_neg (by rw [ucells_length]; omega), ucells_length, List.set_append, if_neg (by rw [ucells_length]; omega), ucells_length,
            show r.length * 4 + 1 - r.length * 4 = 1 from by omega, show r.length * 4 + 3 - r.length * 4 = 3 from by omega]
          simp [ucells, U.cells]
        rw [hset] at ho2
        have hb2 := (hb.setCell (p := ⟨g, r.length * 4 + 1, none⟩) hg1 (.int .i64 ((k : Int) + 1))).setCell (p := ⟨g, r.length * 4 + 3, none⟩) hg1 (.bool (s == 4))
        simp only [U.cells, List.getElem?_cons_succ, List.getElem?_cons_zero] at hu1 hu2
        clear hset ho1
        rcases hsee with ⟨h40, rfl⟩ | ⟨rfl, rfl, h1⟩ | ⟨rfl, h1, y, hy, hy0, rfl⟩ | ⟨rfl, h1, hy, rfl⟩
        rotate_left
        · simp [mark] at hm
        · simp [mark] at hm
        all_goals first | (obtain ⟨ad1, rfl, hcy⟩ := hws 0 hy h1; clear hy) | skip
        all_goals clear hws hr1'
        all_goals
          go_wp2_with (first
            | (go_at_call 19; refine (mark_is _ _ hm _).mono ?_; rintro e w' ⟨rfl, rfl⟩)
            | (go_at_call 20; refine (takes_is _ _ ht _).mono ?_; rintro e w' ⟨rfl, rfl⟩))

          go_roundw
          case rel => exact ⟨k + 1, by omega, by go_num, by rw [HE.out, List.length_append]; exact ho2, hb2⟩
          case measure => simp [intOf]; omega
      · -- a mark behind a unit that takes none
        have e : unitStep s k (r ++ [u]) = r ++ [u] ++ [⟨k, k + 1, 1, s == 4⟩] := by simp [unitStep, hm, ht]
        have HE := Lib.hid (HS.out.trans e)
        clear HS e
        obtain ⟨us, hus⟩ : ∃ us, us = r ++ [u] := ⟨_, rfl⟩
        simp only [List.length_append, List.length_singleton] at hown hlen
        obtain ⟨g, c5, rfl, hg1, hg2⟩ := hown.form (by omega)
        have hu2 := (hown.cellAt (r.length * 4 + 2) (by omega)).trans (ucells_at (us := r ++ [u]) (k := r.length) (u := u) (by simp) 2 (by omega))
        simp only [U.cells, List.getElem?_cons_succ, List.getElem?_cons_zero] at hu2
        rcases hsee with ⟨h40, rfl⟩ | ⟨rfl, rfl, h1⟩ | ⟨rfl, h1, y, hy, hy0, rfl⟩ | ⟨rfl, h1, hy, rfl⟩
        rotate_left
        · simp [mark] at hm
        · simp [mark] at hm
        all_goals first | (obtain ⟨ad1, rfl, hcy⟩ := hws 0 hy h1; clear hy) | skip
        all_goals clear hws hr1'
        all_goals
          go_wp2_with (first
            | (go_at_call 19; refine (mark_is _ _ hm _).mono ?_; rintro e w' ⟨rfl, rfl⟩)
            | (go_at_call 20; refine (takes_is _ _ ht _).mono ?_; rintro e w' ⟨rfl, rfl⟩)
            | (at_builtin; refine wpList_append_new rfl (.tmp 75) (.tmp 82) 25 rfl w.heap.size w w.heap.size 31 i0 _ 4 24 Try.underlying25 hi hz0 hz1 hz2 rfl (by decide) _ _ _ rfl hown _ _ rfl u_one _ rfl (by simp) hb hb.size (Nat.le_refl _) hb.size (by omega) (by omega) ?_; intro v' w1 hown1 hb1 _ _))
          go_roundw
          case rel => exact ⟨k + 1, by omega, by go_num, by rw [HE.out]; simpa [ucells, U.cells] using hown1, hb1⟩
          case measure => simp [intOf]; omega
    · obtain rfl : n = k := by omega
      clear hr hr1
      go_wp2
      go_ret
      refine ⟨_, rfl, ?_, hb⟩
      rw [units, HL.out]
      exact hown
end Go.Proofs.Ytbobhcffbgnfkaa.lr
