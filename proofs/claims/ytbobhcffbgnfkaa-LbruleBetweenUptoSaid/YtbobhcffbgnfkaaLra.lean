/-
  Layer 20: the contracts of the predicates on classes, of numeric and of alike over the program.
-/
import Derived.Test.YtbobhcffbgnfkaaRows
import Derived.Test.YtbobhcffbgnfkaaBase
import Derived.Test.YtbobhcffbgnfkaaLrp
import Derived.Deep.DeepCutAuto
import Derived.Outline
namespace Go.Proofs.Ytbobhcffbgnfkaa.lr
open Go.RowKit

/-- a block that is known whole -/
def Blk (w : World) (g : Nat) (t : TypeId) (cs : Array Value) : Prop := w.heap[g]? = some (.cells cs t (0, 0))
section
variable {w w' : World} {g : Nat} {t : TypeId} {cs : Array Value}
theorem Blk.lt (h : Blk w g t cs) : g < w.heap.size := by
  rcases Nat.lt_or_ge g w.heap.size with hlt | hge
  · exact hlt
  · unfold Blk at h; rw [Array.getElem?_eq_none hge] at h; cases h
theorem Blk.cell (h : Blk w g t cs) (i : Nat) : w.cell? ⟨g, i, none⟩ = cs[i]? := cell_of_row w g i cs t (0, 0) h
theorem Blk.frozen (h : Blk w g t cs) (i : Nat) : w.frozen? ⟨g, i, none⟩ = false := by
  unfold Blk at h
  simp [World.frozen?, h]
theorem Blk.new (w : World) (t : TypeId) (cs : Array Value) : Blk (w.alloc (.cells cs t)) w.heap.size t cs := heap_alloc_new w _
theorem Blk.drew (h : Blk w g t cs) : Blk w.drew g t cs := h
theorem Blk.drewN (h : Blk w g t cs) (n : Nat) : Blk (w.drewN n) g t cs := h
theorem Blk.alloc (h : Blk w g t cs) (o : Obj) : Blk (w.alloc o) g t cs := (Below.heap_alloc w o g h.lt).trans h
theorem Blk.set_ (h : Blk w g t cs) (i : Nat) (u : Value) : Blk (w.setCell ⟨g, i, none⟩ u) g t (cs.setIfInBounds i u) := by
  unfold Blk at h ⊢
  simp [World.setCell, Array.getElem?_modify, h]
theorem Blk.far (h : Blk w g t cs) {p : Addr} (hp : g ≠ p.block) (u : Value) : Blk (w.setCell p u) g t cs := (Below.heap_setCell w p u g hp).trans h
theorem Blk.below {B : Nat} (h : Blk w g t cs) (hb : Below B w w') (hg : g < B) : Blk w' g t cs := (hb.block g hg).trans h
theorem Blk.grown {row : Option Nat} (h : Blk w g t cs) (hb : w.grownBy w' row) (hg : some g ≠ row) : Blk w' g t cs := (hb.block g h.lt hg).trans h
end

/-- the cells of a state -/
def S.cells (s : S) : Array Value := #[.int .u8 s.last, .bool s.joined, .int .u8 s.base, .bool s.hebrew, .int .i64 (s.flags : Int), .int .i64 s.number]

theorem letter_any (c : Int) (w : World) : Calls Try.prog 34 #[.int .u8 c] w fun e w' => e = .returned (.bool (letterB c)) ∧ w = w' := by
  go_enter Try.func34, Try.ntmps34
  go_wp2
  all_goals go_ret
  all_goals (refine ⟨?_, rfl⟩; simp_all [letterB])
theorem pic_any (c : Int) (w : World) : Calls Try.prog 35 #[.int .u8 c] w fun e w' => e = .returned (.bool (picB c)) ∧ w = w' := by
  go_enter Try.func35, Try.ntmps35
  go_wp2
  all_goals go_ret
  all_goals (refine ⟨?_, rfl⟩; simp_all [picB])
theorem kor_any (c : Int) (w : World) : Calls Try.prog 37 #[.int .u8 c] w fun e w' => e = .returned (.bool (korB c)) ∧ w = w' := by
  go_enter Try.func37, Try.ntmps37
  go_wp2
  all_goals go_ret
  all_goals (refine ⟨?_, rfl⟩; simp_all [korB])
theorem clos_any (c : Int) (w : World) : Calls Try.prog 25 #[.int .u8 c] w fun e w' => e = .returned (.bool (closB c)) ∧ w = w' := by
  go_enter Try.func25, Try.ntmps25
  go_wp2
  all_goals go_ret
  all_goals (refine ⟨?_, rfl⟩; simp_all [closB])
theorem mon_any (c : Int) (w : World) : Calls Try.prog 36 #[.int .u8 c] w fun e w' => e = .returned (.bool (monB c)) ∧ w = w' := by
  go_enter Try.func36, Try.ntmps36
  go_wp2
  all_goals go_ret
  all_goals (refine ⟨?_, rfl⟩; simp_all [monB])

set_option maxRecDepth 100000 in
set_option maxHeartbeats 4000000 in
theorem numeric_any (s : S) (g : Nat) (c after : Int) (w : World) (hs : Blk w g 45 s.cells) :
    Calls Try.prog 26 #[.pointer (some ⟨g, 0, none⟩), .int .u8 c, .int .u8 after] w fun e w' => e = .returned (.bool (numericB s.last s.number c after)) ∧ w = w' := by
  obtain ⟨a, j, b, h, f, n⟩ := s
  have c0 := hs.cell 0
  have c5 := hs.cell 5
  simp only [S.cells, List.getElem?_toArray, List.getElem?_cons_zero, List.getElem?_cons_succ] at c0 c5
  clear hs
  show Calls _ _ _ w fun e w' => e = .returned (.bool (numericB a n c after)) ∧ w = w'
  go_enter Try.func26, Try.ntmps26
  go_upto_region 2 with (fail)
  go_cut [12] (fun s wx => s = .bool (letterB a && c == 27) ∧ wx = w)
  case first =>
    go_wp2_with (first | (go_at_call 34; (with_reducible refine (letter_any _ _).mono ?_); rintro e w' ⟨rfl, rfl⟩) | (go_at_call 35; (with_reducible refine (pic_any _ _).mono ?_); rintro e w' ⟨rfl, rfl⟩) | (go_at_call 37; (with_reducible refine (kor_any _ _).mono ?_); rintro e w' ⟨rfl, rfl⟩) | (go_at_call 25; (with_reducible refine (clos_any _ _).mono ?_); rintro e w' ⟨rfl, rfl⟩) | (go_at_call 36; (with_reducible refine (mon_any _ _).mono ?_); rintro e w' ⟨rfl, rfl⟩))
    all_goals (try subst_vars)
    all_goals go_meet
    all_goals exact ⟨by first | rfl | (simp_all; done) | (congr 1; rw [Bool.eq_iff_iff]; simp_all; done) | (congr 1; rw [Bool.eq_iff_iff]; simp_all; omega), rfl⟩
  case rest =>
    obtain ⟨rfl, hwc⟩ := hcut
    subst hwc
    go_upto_if 12 with (fail)
    go_cut [12] (fun s wx => s = .bool (letterB a && c == 27 || a == 27 && letterB c) ∧ wx = wc)
    case first =>
      cases hq : (letterB a && c == 27)
      all_goals go_wp2_with (first | (go_at_call 34; (with_reducible refine (letter_any _ _).mono ?_); rintro e w' ⟨rfl, rfl⟩) | (go_at_call 35; (with_reducible refine (pic_any _ _).mono ?_); rintro e w' ⟨rfl, rfl⟩) | (go_at_call 37; (with_reducible refine (kor_any _ _).mono ?_); rintro e w' ⟨rfl, rfl⟩) | (go_at_call 25; (with_reducible refine (clos_any _ _).mono ?_); rintro e w' ⟨rfl, rfl⟩) | (go_at_call 36; (with_reducible refine (mon_any _ _).mono ?_); rintro e w' ⟨rfl, rfl⟩))
      all_goals (try subst_vars)
      all_goals go_meet
      all_goals exact ⟨by first | rfl | (simp_all; done) | (congr 1; rw [Bool.eq_iff_iff]; simp_all; done) | (congr 1; rw [Bool.eq_iff_iff]; simp_all; omega), rfl⟩
    case rest =>
      obtain ⟨rfl, hwc⟩ := hcut
      subst hwc
      cases h1 : (letterB a && c == 27 || a == 27 && letterB c)
      rotate_left
      · go_wp2
        go_ret
        exact ⟨ret_bool (by unfold numericB; simp only [h1, Bool.true_or]), rfl⟩
      go_upto_region 5 with (fail)
      go_cut [25] (fun s wx => s = .bool (a == 29 && picB c) ∧ wx = wc)
      case first =>
        go_wp2_with (first | (go_at_call 34; (with_reducible refine (letter_any _ _).mono ?_); rintro e w' ⟨rfl, rfl⟩) | (go_at_call 35; (with_reducible refine (pic_any _ _).mono ?_); rintro e w' ⟨rfl, rfl⟩) | (go_at_call 37; (with_reducible refine (kor_any _ _).mono ?_); rintro e w' ⟨rfl, rfl⟩) | (go_at_call 25; (with_reducible refine (clos_any _ _).mono ?_); rintro e w' ⟨rfl, rfl⟩) | (go_at_call 36; (with_reducible refine (mon_any _ _).mono ?_); rintro e w' ⟨rfl, rfl⟩))
        all_goals (try subst_vars)
        all_goals go_meet
        all_goals exact ⟨by first | rfl | (simp_all; done) | (congr 1; rw [Bool.eq_iff_iff]; simp_all; done) | (congr 1; rw [Bool.eq_iff_iff]; simp_all; omega), rfl⟩
      case rest =>
        obtain ⟨rfl, hwc⟩ := hcut
        subst hwc
        go_upto_if 25 with (fail)
        go_cut [25] (fun s wx => s = .bool (a == 29 && picB c || picB a && c == 28) ∧ wx = wc)
        case first =>
          cases hq : (a == 29 && picB c)
          all_goals go_wp2_with (first | (go_at_call 34; (with_reducible refine (letter_any _ _).mono ?_); rintro e w' ⟨rfl, rfl⟩) | (go_at_call 35; (with_reducible refine (pic_any _ _).mono ?_); rintro e w' ⟨rfl, rfl⟩) | (go_at_call 37; (with_reducible refine (kor_any _ _).mono ?_); rintro e w' ⟨rfl, rfl⟩) | (go_at_call 25; (with_reducible refine (clos_any _ _).mono ?_); rintro e w' ⟨rfl, rfl⟩) | (go_at_call 36; (with_reducible refine (mon_any _ _).mono ?_); rintro e w' ⟨rfl, rfl⟩))
          all_goals (try subst_vars)
          all_goals go_meet
          all_goals exact ⟨by first | rfl | (simp_all; done) | (congr 1; rw [Bool.eq_iff_iff]; simp_all; done) | (congr 1; rw [Bool.eq_iff_iff]; simp_all; omega), rfl⟩
        case rest =>
          obtain ⟨rfl, hwc⟩ := hcut
          subst hwc
          cases h2 : (a == 29 && picB c || picB a && c == 28)
          rotate_left
          · go_wp2
            go_ret
            exact ⟨ret_bool (by unfold numericB; simp only [h1, h2, Bool.false_or, Bool.true_or]), rfl⟩
          go_upto_region 8 with (fail)
          go_cut [38] (fun s wx => s = .bool (monB a && letterB c) ∧ wx = wc)
          case first =>
            go_wp2_with (first | (go_at_call 34; (with_reducible refine (letter_any _ _).mono ?_); rintro e w' ⟨rfl, rfl⟩) | (go_at_call 35; (with_reducible refine (pic_any _ _).mono ?_); rintro e w' ⟨rfl, rfl⟩) | (go_at_call 37; (with_reducible refine (kor_any _ _).mono ?_); rintro e w' ⟨rfl, rfl⟩) | (go_at_call 25; (with_reducible refine (clos_any _ _).mono ?_); rintro e w' ⟨rfl, rfl⟩) | (go_at_call 36; (with_reducible refine (mon_any _ _).mono ?_); rintro e w' ⟨rfl, rfl⟩))
            all_goals (try subst_vars)
            all_goals go_meet
            all_goals exact ⟨by first | rfl | (simp_all; done) | (congr 1; rw [Bool.eq_iff_iff]; simp_all; done) | (congr 1; rw [Bool.eq_iff_iff]; simp_all; omega), rfl⟩
          case rest =>
            obtain ⟨rfl, hwc⟩ := hcut
            subst hwc
            go_upto_if 38 with (fail)
            go_cut [38] (fun s wx => s = .bool (monB a && letterB c || letterB a && monB c) ∧ wx = wc)
            case first =>
              cases hq : (monB a && letterB c)
              all_goals go_wp2_with (first | (go_at_call 34; (with_reducible refine (letter_any _ _).mono ?_); rintro e w' ⟨rfl, rfl⟩) | (go_at_call 35; (with_reducible refine (pic_any _ _).mono ?_); rintro e w' ⟨rfl, rfl⟩) | (go_at_call 37; (with_reducible refine (kor_any _ _).mono ?_); rintro e w' ⟨rfl, rfl⟩) | (go_at_call 25; (with_reducible refine (clos_any _ _).mono ?_); rintro e w' ⟨rfl, rfl⟩) | (go_at_call 36; (with_reducible refine (mon_any _ _).mono ?_); rintro e w' ⟨rfl, rfl⟩))
              all_goals (try subst_vars)
              all_goals go_meet
              all_goals exact ⟨by first | rfl | (simp_all; done) | (congr 1; rw [Bool.eq_iff_iff]; simp_all; done) | (congr 1; rw [Bool.eq_iff_iff]; simp_all; omega), rfl⟩
            case rest =>
              obtain ⟨rfl, hwc⟩ := hcut
              subst hwc
              cases h3 : (monB a && letterB c || letterB a && monB c)
              rotate_left
              · go_wp2
                go_ret
                exact ⟨ret_bool (by unfold numericB; simp only [h1, h2, h3, Bool.false_or, Bool.true_or]), rfl⟩
              go_upto_region 11 with (fail)
              go_cut [51] (fun s wx => s = .bool (monB a && (c == 27 || (c == 21 || c == 17) && after == 27)) ∧ wx = wc)
              case first =>
                go_wp2_with (first | (go_at_call 34; (with_reducible refine (letter_any _ _).mono ?_); rintro e w' ⟨rfl, rfl⟩) | (go_at_call 35; (with_reducible refine (pic_any _ _).mono ?_); rintro e w' ⟨rfl, rfl⟩) | (go_at_call 37; (with_reducible refine (kor_any _ _).mono ?_); rintro e w' ⟨rfl, rfl⟩) | (go_at_call 25; (with_reducible refine (clos_any _ _).mono ?_); rintro e w' ⟨rfl, rfl⟩) | (go_at_call 36; (with_reducible refine (mon_any _ _).mono ?_); rintro e w' ⟨rfl, rfl⟩))
                all_goals (try subst_vars)
                all_goals go_meet
                all_goals exact ⟨by first | rfl | (simp_all; done) | (congr 1; rw [Bool.eq_iff_iff]; simp_all; done) | (congr 1; rw [Bool.eq_iff_iff]; simp_all; omega), rfl⟩
              case rest =>
                obtain ⟨rfl, hwc⟩ := hcut
                subst hwc
                cases h4 : (monB a && (c == 27 || (c == 21 || c == 17) && after == 27))
                rotate_left
                · go_wp2
                  go_ret
                  exact ⟨ret_bool (by unfold numericB; simp only [h1, h2, h3, h4, Bool.false_or, Bool.true_or]), rfl⟩
                go_upto_region 13 with (fail)
                go_cut [70] (fun s wx => s = .bool ((a == 21 || a == 17) && c == 27) ∧ wx = wc)
                case first =>
                  go_wp2_with (first | (go_at_call 34; (with_reducible refine (letter_any _ _).mono ?_); rintro e w' ⟨rfl, rfl⟩) | (go_at_call 35; (with_reducible refine (pic_any _ _).mono ?_); rintro e w' ⟨rfl, rfl⟩) | (go_at_call 37; (with_reducible refine (kor_any _ _).mono ?_); rintro e w' ⟨rfl, rfl⟩) | (go_at_call 25; (with_reducible refine (clos_any _ _).mono ?_); rintro e w' ⟨rfl, rfl⟩) | (go_at_call 36; (with_reducible refine (mon_any _ _).mono ?_); rintro e w' ⟨rfl, rfl⟩))
                  all_goals (try subst_vars)
                  all_goals go_meet
                  all_goals exact ⟨by first | rfl | (simp_all; done) | (congr 1; rw [Bool.eq_iff_iff]; simp_all; done) | (congr 1; rw [Bool.eq_iff_iff]; simp_all; omega), rfl⟩
                case rest =>
                  obtain ⟨rfl, hwc⟩ := hcut
                  subst hwc
                  go_upto_if 70 with (fail)
                  go_cut [70] (fun s wx => s = .bool ((a == 21 || a == 17) && c == 27 || (n == 1 && c == 27 || decide (0 < n) && monB c)) ∧ wx = wc)
                  case first =>
                    cases hq : ((a == 21 || a == 17) && c == 27)
                    all_goals go_wp2_with (first | (go_at_call 34; (with_reducible refine (letter_any _ _).mono ?_); rintro e w' ⟨rfl, rfl⟩) | (go_at_call 35; (with_reducible refine (pic_any _ _).mono ?_); rintro e w' ⟨rfl, rfl⟩) | (go_at_call 37; (with_reducible refine (kor_any _ _).mono ?_); rintro e w' ⟨rfl, rfl⟩) | (go_at_call 25; (with_reducible refine (clos_any _ _).mono ?_); rintro e w' ⟨rfl, rfl⟩) | (go_at_call 36; (with_reducible refine (mon_any _ _).mono ?_); rintro e w' ⟨rfl, rfl⟩))
                    all_goals (try subst_vars)
                    all_goals go_meet
                    all_goals exact ⟨by first | rfl | (simp_all; done) | (congr 1; rw [Bool.eq_iff_iff]; simp_all; done) | (congr 1; rw [Bool.eq_iff_iff]; simp_all; omega), rfl⟩
                  case rest =>
                    obtain ⟨rfl, hwc⟩ := hcut
                    subst hwc
                    cases h5 : ((a == 21 || a == 17) && c == 27 || (n == 1 && c == 27 || decide (0 < n) && monB c))
                    rotate_left
                    · go_wp2
                      go_ret
                      exact ⟨ret_bool (by unfold numericB; simp only [h1, h2, h3, h4, h5, Bool.false_or]), rfl⟩
                    go_wp2
                    go_ret
                    exact ⟨ret_bool (by unfold numericB; simp only [h1, h2, h3, h4, h5, Bool.false_or]), rfl⟩

set_option maxRecDepth 100000 in
set_option maxHeartbeats 4000000 in
theorem alike_any (s : S) (g : Nat) (c : Int) (w : World) (hs : Blk w g 45 s.cells) (hf : s.flags ≤ 4194304) :
    Calls Try.prog 27 #[.pointer (some ⟨g, 0, none⟩), .int .u8 c] w fun e w' => e = .returned (.bool (alikeB s.last s.flags c)) ∧ w = w' := by
  obtain ⟨a, j, b, h, f, n⟩ := s
  have c0 := hs.cell 0
  have c4 := hs.cell 4
  simp only [S.cells, List.getElem?_toArray, List.getElem?_cons_zero, List.getElem?_cons_succ] at c0 c4
  clear hs
  show Calls _ _ _ w fun e w' => e = .returned (.bool (alikeB a f c)) ∧ w = w'
  simp only at hf
  go_enter Try.func27, Try.ntmps27
  go_upto_region 2 with (fail)
  go_cut [10] (fun s wx => s = .bool (a == 34 && (c == 34 || c == 35 || c == 37 || c == 38)) ∧ wx = w)
  case first =>
    go_wp2_with (first | (go_at_call 34; (with_reducible refine (letter_any _ _).mono ?_); rintro e w' ⟨rfl, rfl⟩) | (go_at_call 35; (with_reducible refine (pic_any _ _).mono ?_); rintro e w' ⟨rfl, rfl⟩) | (go_at_call 37; (with_reducible refine (kor_any _ _).mono ?_); rintro e w' ⟨rfl, rfl⟩) | (go_at_call 25; (with_reducible refine (clos_any _ _).mono ?_); rintro e w' ⟨rfl, rfl⟩) | (go_at_call 36; (with_reducible refine (mon_any _ _).mono ?_); rintro e w' ⟨rfl, rfl⟩))
    all_goals (try subst_vars)
    all_goals go_meet
    all_goals exact ⟨by first | rfl | (simp_all; done) | (congr 1; rw [Bool.eq_iff_iff]; simp_all; done) | (congr 1; rw [Bool.eq_iff_iff]; simp_all; omega), rfl⟩
  case rest =>
    obtain ⟨rfl, hwc⟩ := hcut
    subst hwc
    go_upto_if 10 with (fail)
    go_cut [10] (fun s wx => s = .bool (a == 34 && (c == 34 || c == 35 || c == 37 || c == 38) || ((a == 35 || a == 37) && (c == 35 || c == 36) || (a == 36 || a == 38) && c == 36)) ∧ wx = wc)
    case first =>
      cases hq : (a == 34 && (c == 34 || c == 35 || c == 37 || c == 38))
      all_goals go_wp2_with (first | (go_at_call 34; (with_reducible refine (letter_any _ _).mono ?_); rintro e w' ⟨rfl, rfl⟩) | (go_at_call 35; (with_reducible refine (pic_any _ _).mono ?_); rintro e w' ⟨rfl, rfl⟩) | (go_at_call 37; (with_reducible refine (kor_any _ _).mono ?_); rintro e w' ⟨rfl, rfl⟩) | (go_at_call 25; (with_reducible refine (clos_any _ _).mono ?_); rintro e w' ⟨rfl, rfl⟩) | (go_at_call 36; (with_reducible refine (mon_any _ _).mono ?_); rintro e w' ⟨rfl, rfl⟩))
      all_goals (try subst_vars)
      all_goals go_meet
      all_goals exact ⟨by first | rfl | (simp_all; done) | (congr 1; rw [Bool.eq_iff_iff]; simp_all; done) | (congr 1; rw [Bool.eq_iff_iff]; simp_all; omega), rfl⟩
    case rest =>
      obtain ⟨rfl, hwc⟩ := hcut
      subst hwc
      cases h1 : (a == 34 && (c == 34 || c == 35 || c == 37 || c == 38) || ((a == 35 || a == 37) && (c == 35 || c == 36) || (a == 36 || a == 38) && c == 36))
      rotate_left
      · go_wp2
        go_ret
        exact ⟨ret_bool (by unfold alikeB; simp only [h1, Bool.true_or]), rfl⟩
      go_upto_region 6 with (fail)
      go_cut [53] (fun s wx => s = .bool (korB a && c == 28) ∧ wx = wc)
      case first =>
        go_wp2_with (first | (go_at_call 34; (with_reducible refine (letter_any _ _).mono ?_); rintro e w' ⟨rfl, rfl⟩) | (go_at_call 35; (with_reducible refine (pic_any _ _).mono ?_); rintro e w' ⟨rfl, rfl⟩) | (go_at_call 37; (with_reducible refine (kor_any _ _).mono ?_); rintro e w' ⟨rfl, rfl⟩) | (go_at_call 25; (with_reducible refine (clos_any _ _).mono ?_); rintro e w' ⟨rfl, rfl⟩) | (go_at_call 36; (with_reducible refine (mon_any _ _).mono ?_); rintro e w' ⟨rfl, rfl⟩))
        all_goals (try subst_vars)
        all_goals go_meet
        all_goals exact ⟨by first | rfl | (simp_all; done) | (congr 1; rw [Bool.eq_iff_iff]; simp_all; done) | (congr 1; rw [Bool.eq_iff_iff]; simp_all; omega), rfl⟩
      case rest =>
        obtain ⟨rfl, hwc⟩ := hcut
        subst hwc
        go_upto_if 53 with (fail)
        go_cut [53] (fun s wx => s = .bool (korB a && c == 28 || a == 29 && korB c) ∧ wx = wc)
        case first =>
          cases hq : (korB a && c == 28)
          all_goals go_wp2_with (first | (go_at_call 34; (with_reducible refine (letter_any _ _).mono ?_); rintro e w' ⟨rfl, rfl⟩) | (go_at_call 35; (with_reducible refine (pic_any _ _).mono ?_); rintro e w' ⟨rfl, rfl⟩) | (go_at_call 37; (with_reducible refine (kor_any _ _).mono ?_); rintro e w' ⟨rfl, rfl⟩) | (go_at_call 25; (with_reducible refine (clos_any _ _).mono ?_); rintro e w' ⟨rfl, rfl⟩) | (go_at_call 36; (with_reducible refine (mon_any _ _).mono ?_); rintro e w' ⟨rfl, rfl⟩))
          all_goals (try subst_vars)
          all_goals go_meet
          all_goals exact ⟨by first | rfl | (simp_all; done) | (congr 1; rw [Bool.eq_iff_iff]; simp_all; done) | (congr 1; rw [Bool.eq_iff_iff]; simp_all; omega), rfl⟩
        case rest =>
          obtain ⟨rfl, hwc⟩ := hcut
          subst hwc
          cases h2 : (korB a && c == 28 || a == 29 && korB c)
          rotate_left
          · go_wp2
            go_ret
            exact ⟨ret_bool (by unfold alikeB; simp only [h1, h2, Bool.false_or, Bool.true_or]), rfl⟩
          go_upto_region 9 with (fail)
          go_cut [66] (fun s wx => s = .bool (letterB a && letterB c) ∧ wx = wc)
          case first =>
            go_wp2_with (first | (go_at_call 34; (with_reducible refine (letter_any _ _).mono ?_); rintro e w' ⟨rfl, rfl⟩) | (go_at_call 35; (with_reducible refine (pic_any _ _).mono ?_); rintro e w' ⟨rfl, rfl⟩) | (go_at_call 37; (with_reducible refine (kor_any _ _).mono ?_); rintro e w' ⟨rfl, rfl⟩) | (go_at_call 25; (with_reducible refine (clos_any _ _).mono ?_); rintro e w' ⟨rfl, rfl⟩) | (go_at_call 36; (with_reducible refine (mon_any _ _).mono ?_); rintro e w' ⟨rfl, rfl⟩))
            all_goals (try subst_vars)
            all_goals go_meet
            all_goals exact ⟨by first | rfl | (simp_all; done) | (congr 1; rw [Bool.eq_iff_iff]; simp_all; done) | (congr 1; rw [Bool.eq_iff_iff]; simp_all; omega), rfl⟩
          case rest =>
            obtain ⟨rfl, hwc⟩ := hcut
            subst hwc
            go_upto_if 66 with (fail)
            go_cut [66] (fun s wx => s = .bool (letterB a && letterB c || a == 25 && letterB c) ∧ wx = wc)
            case first =>
              cases hq : (letterB a && letterB c)
              all_goals go_wp2_with (first | (go_at_call 34; (with_reducible refine (letter_any _ _).mono ?_); rintro e w' ⟨rfl, rfl⟩) | (go_at_call 35; (with_reducible refine (pic_any _ _).mono ?_); rintro e w' ⟨rfl, rfl⟩) | (go_at_call 37; (with_reducible refine (kor_any _ _).mono ?_); rintro e w' ⟨rfl, rfl⟩) | (go_at_call 25; (with_reducible refine (clos_any _ _).mono ?_); rintro e w' ⟨rfl, rfl⟩) | (go_at_call 36; (with_reducible refine (mon_any _ _).mono ?_); rintro e w' ⟨rfl, rfl⟩))
              all_goals (try subst_vars)
              all_goals go_meet
              all_goals exact ⟨by first | rfl | (simp_all; done) | (congr 1; rw [Bool.eq_iff_iff]; simp_all; done) | (congr 1; rw [Bool.eq_iff_iff]; simp_all; omega), rfl⟩
            case rest =>
              obtain ⟨rfl, hwc⟩ := hcut
              subst hwc
              cases h3 : (letterB a && letterB c || a == 25 && letterB c)
              rotate_left
              · go_wp2
                go_ret
                exact ⟨ret_bool (by unfold alikeB; simp only [h1, h2, h3, Bool.false_or, Bool.true_or]), rfl⟩
              go_upto_region 12 with (fail)
              go_cut [79] (fun s wx => s = .bool ((letterB a || a == 27) && c == 21) ∧ wx = wc)
              case first =>
                go_wp2_with (first | (go_at_call 34; (with_reducible refine (letter_any _ _).mono ?_); rintro e w' ⟨rfl, rfl⟩) | (go_at_call 35; (with_reducible refine (pic_any _ _).mono ?_); rintro e w' ⟨rfl, rfl⟩) | (go_at_call 37; (with_reducible refine (kor_any _ _).mono ?_); rintro e w' ⟨rfl, rfl⟩) | (go_at_call 25; (with_reducible refine (clos_any _ _).mono ?_); rintro e w' ⟨rfl, rfl⟩) | (go_at_call 36; (with_reducible refine (mon_any _ _).mono ?_); rintro e w' ⟨rfl, rfl⟩))
                all_goals (try subst_vars)
                all_goals go_meet
                all_goals exact ⟨by first | rfl | (simp_all; done) | (congr 1; rw [Bool.eq_iff_iff]; simp_all; done) | (congr 1; rw [Bool.eq_iff_iff]; simp_all; omega), rfl⟩
              case rest =>
                obtain ⟨rfl, hwc⟩ := hcut
                subst hwc
                go_upto_if 79 with (fail)
                go_cut [79] (fun s wx => s = .bool ((letterB a || a == 27) && c == 21 || a == 20 && (letterB c || c == 27)) ∧ wx = wc)
                case first =>
                  cases hq : ((letterB a || a == 27) && c == 21)
                  all_goals go_wp2_with (first | (go_at_call 34; (with_reducible refine (letter_any _ _).mono ?_); rintro e w' ⟨rfl, rfl⟩) | (go_at_call 35; (with_reducible refine (pic_any _ _).mono ?_); rintro e w' ⟨rfl, rfl⟩) | (go_at_call 37; (with_reducible refine (kor_any _ _).mono ?_); rintro e w' ⟨rfl, rfl⟩) | (go_at_call 25; (with_reducible refine (clos_any _ _).mono ?_); rintro e w' ⟨rfl, rfl⟩) | (go_at_call 36; (with_reducible refine (mon_any _ _).mono ?_); rintro e w' ⟨rfl, rfl⟩))
                  all_goals (try subst_vars)
                  all_goals go_meet
                  all_goals exact ⟨by first | rfl | (simp_all; done) | (congr 1; rw [Bool.eq_iff_iff]; simp_all; done) | (congr 1; rw [Bool.eq_iff_iff]; simp_all; omega), rfl⟩
                case rest =>
                  obtain ⟨rfl, hwc⟩ := hcut
                  subst hwc
                  cases h4 : ((letterB a || a == 27) && c == 21 || a == 20 && (letterB c || c == 27))
                  rotate_left
                  · go_wp2
                    go_ret
                    exact ⟨ret_bool (by unfold alikeB; simp only [h1, h2, h3, h4, Bool.false_or, Bool.true_or]), rfl⟩
                  go_wp2
                  all_goals go_ret
                  all_goals exact ⟨ret_bool (by unfold alikeB; simp only [h1, h2, h3, h4, Bool.false_or]; first | rfl | (simp_all; done) | (rw [Bool.eq_iff_iff]; simp_all; done) | (rw [Bool.eq_iff_iff]; simp_all; omega)), rfl⟩
end Go.Proofs.Ytbobhcffbgnfkaa.lr
