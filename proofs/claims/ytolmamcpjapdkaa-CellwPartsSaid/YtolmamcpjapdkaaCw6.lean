/-
  Layer 7: sums of widths; the contracts of cellw.Sum and of the document's examples over the program.
-/
import Derived.Test.YtolmamcpjapdkaaCw5
namespace Go.Proofs.Ytolmamcpjapdkaa.cw
open Go.RowKit tr

def sumZ : List Int → Int
  | [] => 0
  | x :: r => x + sumZ r
theorem sumZ_append (a b : List Int) : sumZ (a ++ b) = sumZ a + sumZ b := by
  induction a with
  | nil => simp [sumZ]
  | cons x r ih => simp only [List.cons_append, sumZ, ih]; omega
theorem sumZ_take {l : List Int} {k : Nat} (h : k < l.length) : sumZ (l.take (k + 1)) = sumZ (l.take k) + l[k] := by
  rw [List.take_add_one, List.getElem?_eq_getElem h, sumZ_append]
  simp [sumZ]
theorem sumZ_bound {l : List Int} (h : ∀ z ∈ l, 0 ≤ z ∧ z ≤ 2) : 0 ≤ sumZ l ∧ sumZ l ≤ 2 * (l.length : Int) := by
  induction l with
  | nil => simp [sumZ]
  | cons x r ih =>
    have h1 := h x (by simp)
    have h2 := ih fun z hz => h z (by simp [hz])
    simp only [sumZ, List.length_cons]
    omega
theorem cls_all (rs : List Int) : ∀ z ∈ rs.map clsOf, 0 ≤ z ∧ z ≤ 2 := by
  intro z hz
  obtain ⟨r, _, rfl⟩ := List.mem_map.1 hz
  exact cls_range r

set_option maxHeartbeats 4000000 in
theorem sum_any (A : Option Addr) (n c : Nat) (ws : List Int) (w : World) (hr : Rd w 1 A n (ints .i64 ws)) (hz : ∀ z ∈ ws, 0 ≤ z ∧ z ≤ 2) (hn : n ≤ 2097152) :
    Calls Try.prog 12 #[.slice A n c] w fun e w' => e = .returned (.int .i64 (sumZ ws)) ∧ w = w' := by
  have hL : ws.length = n := by simpa using hr.1
  go_enter Try.func12, Try.ntmps12
  go_wp2
  go_loop [3, 8] (fun s i => ∃ k : Nat, k ≤ n ∧ i = .int .i64 k ∧ s = .int .i64 (sumZ (ws.take k))) (fun _ i => n - (intOf i).toNat)
  case atStart => exact ⟨0, Nat.zero_le _, rfl, rfl⟩
  case round =>
    obtain ⟨k, hk, rfl, rfl⟩ := hrel
    by_cases hlt : k < n
    · have hkl : k < ws.length := by rw [hL]; exact hlt
      obtain ⟨ad, rfl, e1⟩ := hr.cell_ (ints_at (K := .i64) hkl)
      have hb1 := sumZ_bound (l := ws.take k) fun z h => hz z (List.mem_of_mem_take h)
      have hx := hz ws[k] (List.getElem_mem hkl)
      have HT := Lib.hid (sumZ_take hkl)
      have hlk : (ws.take k).length = k := by simp; omega
      rw [hlk] at hb1
      clear hlk hr hz hL
      generalize ws[k] = x at *
      generalize sumZ (ws.take k) = s at *
      have x1 : IntKind.i64.wrap (s + x) = s + x := IntWalk.i64_in _ (by omega)
      have y1 : (k : Int) < (n : Int) := by omega
      go_wp2
      go_round
      case rel => exact ⟨k + 1, by omega, by go_num, ret_int' HT.out.symm⟩
      case measure => simp [intOf]; omega
    · obtain rfl : k = n := by omega
      have HT := Lib.hid (show ws.take k = ws from List.take_of_length_le (by omega))
      clear hr hz hL
      go_wp2
      go_ret
      exact ⟨by first | rfl | (rw [HT.out]; rfl), rfl⟩
where
  ret_int' {a b : Int} (h : a = b) : Value.int .i64 a = Value.int .i64 b := by rw [h]

theorem awake_cls : [97, 768, 19968, 9].map clsOf = [1, 0, 2, 0] := by decide +kernel
set_option maxHeartbeats 4000000 in
theorem awake_any (w : World) : Calls Try.prog 6 #[] w fun e w' => e = .returned (.bool true) ∧ Below w.heap.size w w' := by
  have C0 := Lib.hid (of_any (some ⟨w.heap.size, 0, none⟩) 4 4 [97, 768, 19968, 9] (w.alloc (.cells #[.int .i32 97, .int .i32 768, .int .i32 19968, .int .i32 9] 21)) (lit_rd (w := w) (g := w.heap.size) #[.int .i32 97, .int .i32 768, .int .i32 19968, .int .i32 9] 4 (by omega) rfl rfl) (by omega))
  go_enter Try.func6, Try.ntmps6
  go_upto_region 2 with (go_at_call 7; (with_reducible refine C0.out.mono ?_); rintro e w1 ⟨v, rfl, hO, hb⟩)
  rw [awake_cls] at hO
  obtain ⟨g, c, rfl, _, _⟩ := hO.form (by omega)
  have c0 := hO.cellAt 0 (by omega)
  have c1 := hO.cellAt 1 (by omega)
  have c2 := hO.cellAt 2 (by omega)
  have c3 := hO.cellAt 3 (by omega)
  simp only [ints, List.map_cons, List.map_nil, List.getElem?_cons_zero, List.getElem?_cons_succ] at c0 c1 c2 c3
  obtain ⟨A, c', hv, _, hl⟩ := own_slice hO
  cases hv
  have S0 := Lib.hid (sum_any _ 4 c [1, 0, 2, 0] w1 hl (by decide) (by omega))
  have hB : Below w.heap.size w w1 := ((Below.refl _ _).alloc (Nat.le_refl _) _).trans (hb.mono (by simp))
  clear hO hb C0 hl
  go_wp2_with (go_at_call 12; (with_reducible refine S0.out.mono ?_); rintro e w2 ⟨rfl, rfl⟩)
  all_goals go_ret
  all_goals exact ⟨rfl, hB⟩
end Go.Proofs.Ytolmamcpjapdkaa.cw
