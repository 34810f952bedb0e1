/-
  Layer 14: the contracts of Classes, Side, Isolate, Strong, and of weak.first over the program.
-/
import Derived.Test.YtbfglgbgchidgaaRows
import Derived.Test.YtbfglgbgchidgaaWid
import Derived.Test.YtbfglgbgchidgaaWkp
import Derived.Outline
namespace Go.Proofs.Ytbfglgbgchidgaa.wk
open Go.RowKit

theorem infoC : (Try.prog.info? 26).map (fun i => (i.zero, i.size, i.bytes)) = some (some (.int .u8 0), 1, 1) := by kernel_rfl
theorem infoI : (Try.prog.info? 3).map (fun i => (i.zero, i.size, i.bytes)) = some (some (.int .i64 0), 1, 8) := by kernel_rfl

/-- boustrophedonlaw08.Classes -/
def classes (zs : List Int) : List Int := zs.map (· % 23)

set_option maxHeartbeats 400000 in
theorem classes_any (A : Option Addr) (n c : Nat) (zs : List Int) (w : World) (hr : Rd w 1 A n (ints .u8 zs)) (hn : n ≤ 140737488351232) (hz : ∀ z ∈ zs, 0 ≤ z ∧ z ≤ 255) :
    Calls Try.prog 8 #[.slice A n c] w fun e w' => ∃ v, e = .returned v ∧ w'.ownsRow w.heap.size 26 1 v n (ints .u8 (classes zs)) ∧ Below w.heap.size w w' := by
  obtain ⟨i0, hi, hz0, hz1, hz2⟩ := info_parts infoC
  have hl : zs.length = n := by simpa using hr.1
  have HL := Lib.hid hl
  clear hl
  go_enter Try.func8, Try.ntmps8
  go_wp2
  go_loopw [3, 4] (fun v i wr => ∃ k : Nat, k ≤ n ∧ i = .int .i64 k ∧ wr.ownsRow w.heap.size 26 1 v k (ints .u8 (classes (zs.take k))) ∧ Below w.heap.size w wr)
    (fun _ i _ => n - (intOf i).toNat)
  case atStart => exact ⟨0, Nat.zero_le _, rfl, World.ownsRow_nil _ _ _ _, Below.refl _ _⟩
  case round =>
    obtain ⟨k, hk, rfl, hown, hb⟩ := hrel
    by_cases hlt : k < n
    · have hkz : k < zs.length := by rw [HL.out]; exact hlt
      obtain ⟨ad, rfl, hc⟩ := (hr.same hb).cell_ (ints_at (K := .u8) hkz)
      have hzk := hz zs[k] (List.getElem_mem hkz)
      have HT := Lib.hid (take_succ_ zs k hkz)
      clear hr
      generalize zs[k] = x at *
      go_wp2_with (first | (at_builtin; refine wpList_append_one_wide rfl (.tmp 11) (.tmp 17) 24 rfl w.heap.size w w.heap.size 26 i0 (.int .u8 0) 1 Try.underlying24 hi hz0 hz1 hz2 rfl _ _ _ rfl hown _ _ rfl _ rfl (by simp) hb hb.size (Nat.le_refl _) hb.size (by omega) (by omega) ?_; intro v' w1 hown1 hb1 _ _))
      go_roundw
      case rel => exact ⟨k + 1, by omega, by go_num, by rw [HT.out]; simpa [classes, ints] using hown1, hb1⟩
      case measure => simp [intOf]; omega
    · obtain rfl : n = k := by omega
      clear hr
      go_wp2
      go_ret
      refine ⟨_, rfl, ?_, hb⟩
      rw [List.take_of_length_le (by rw [HL.out]; omega)] at hown
      exact hown

/-- Side -/
def sideOf (b : Bool) : Int := if b then 1 else 0
theorem side_any (b : Bool) (w : World) : Calls Try.prog 9 #[.bool b] w fun e w' => e = .returned (.int .u8 (sideOf b)) ∧ w = w' := by
  cases b
  all_goals
    go_enter Try.func9, Try.ntmps9
    go_wp2
    go_ret
    exact ⟨rfl, rfl⟩

theorem iso_any (c : Int) (w : World) : Calls Try.prog 24 #[.int .u8 c] w fun e w' => e = .returned (.bool (isoC c)) ∧ w = w' := by
  go_enter Try.func24, Try.ntmps24
  go_wp2
  all_goals go_ret
  all_goals (refine ⟨?_, rfl⟩; simp_all [isoC])
theorem strong_any (c : Int) (w : World) : Calls Try.prog 25 #[.int .u8 c] w fun e w' => e = .returned (.bool (strongC c)) ∧ w = w' := by
  go_enter Try.func25, Try.ntmps25
  go_wp2
  all_goals go_ret
  all_goals (refine ⟨?_, rfl⟩; simp_all [strongC])

/-- the row at k, and what becomes of it by a store there -/
theorem row_at {α : Type} (d r : List α) (x : α) (k : Nat) (h : d.length = k) : (d ++ x :: r)[k]? = some x := by subst h; simp
theorem row_set {α : Type} (d r : List α) (x y : α) (k : Nat) (h : d.length = k) : (d ++ x :: r).set k y = d ++ [y] ++ r := by subst h; simp
theorem ints_row_at {K : IntKind} (d r : List Int) (x : Int) (k : Nat) (h : d.length = k) : (ints K (d ++ x :: r))[k]? = some (.int K x) := by
  rw [ints, List.getElem?_map, row_at d r x k h]; rfl

set_option maxRecDepth 100000 in
set_option maxHeartbeats 4000000 in
theorem first_any (A : Option Addr) (n c : Nat) (cs : List Int) (sos : Int) (w : World) (base : Nat) (h : w.ownsRow base 26 1 (.slice A n c) n (ints .u8 cs)) (hn : n ≤ 140737488351232) :
    Calls Try.prog 14 #[.slice A n c, .int .u8 sos] w fun e w' => e = .returned (.tuple #[]) ∧ w'.ownsRow base 26 1 (.slice A n c) n (ints .u8 (firstL sos sos cs)) ∧ Below base w w' := by
  have HL := Lib.hid (show cs.length = n by simpa using h.1)
  go_enter Try.func14, Try.ntmps14
  go_wp2
  go_loopw [4, 5, 12] (fun a s i wr => ∃ (k : Nat) (ah st : Int) (done : List Int), k ≤ n ∧ done.length = k ∧ a = .int .u8 ah ∧ s = .int .u8 st ∧ i = .int .i64 k ∧
      firstL sos sos cs = done ++ firstL ah st (cs.drop k) ∧ wr.ownsRow base 26 1 (.slice A n c) n (ints .u8 (done ++ cs.drop k)) ∧ Below base w wr)
    (fun _ _ i _ => n - (intOf i).toNat)
  case atStart => exact ⟨0, sos, sos, [], Nat.zero_le _, rfl, rfl, rfl, rfl, by simp, by simpa using h, Below.refl _ _⟩
  case round =>
    clear h
    obtain ⟨k, ah, st, done, hk, hd, rfl, rfl, rfl, hf, hown, hb⟩ := hrel
    by_cases hlt : k < n
    · have hkc : k < cs.length := by rw [HL.out]; exact hlt
      obtain ⟨g, cap, hv, hg1, hg2⟩ := hown.form (by omega)
      injection hv with hA hnn hcc
      subst hA; subst hcc
      rw [List.drop_eq_getElem_cons hkc] at hf hown
      generalize cs[k] = x at *
      have HST : Hid (∀ y : Int, (wr.setCell ⟨g, k, none⟩ (.int .u8 y)).ownsRow base 26 1 (.slice (some ⟨g, 0, none⟩) n c) n (ints .u8 (done ++ [y] ++ cs.drop (k + 1)))) := fun y => by
        have := (hown.stored k (.int .u8 y)).1
        rwa [ints_set, row_set _ _ _ _ k hd] at this
      have hck := (hown.cellAt k (by omega)).trans (ints_row_at _ _ _ k hd)
      have hfk := hown.frozenAt k
      have HBL := Lib.hid (fun y : Int => hb.setCell (p := ⟨g, k, none⟩) hg1 (.int .u8 y))
      have HF := Lib.hid hf
      have HD := Lib.hid (show ∀ y : Int, (done ++ [y]).length = k + 1 from fun y => by simp [hd])
      clear hf hown hd
      go_wp2_with (first
        | (go_at_call 24; (with_reducible refine (iso_any _ _).mono ?_); rintro e w' ⟨rfl, rfl⟩)
        | (go_at_call 25; (with_reducible refine (strong_any _ _).mono ?_); rintro e w' ⟨rfl, rfl⟩))
      all_goals
        go_roundw
        case rel => exact ⟨k + 1, _, _, done ++ [_], by omega, HD.out _, rfl, rfl, by go_num, by rw [HF.out]; clear HST HBL HD; simp_all [firstL, strongC], HST.out _, HBL.out _⟩
        case measure => simp [intOf]; omega
    · obtain rfl : n = k := by omega
      go_wp2
      go_end0
      rw [List.drop_eq_nil_of_le (by rw [HL.out]; omega)] at hf hown
      refine ⟨rfl, ?_, hb⟩
      rw [hf]; simpa [firstL] using hown
end Go.Proofs.Ytbfglgbgchidgaa.wk
