/-
  Layer 7: the contracts of cellw.Of and of the document's examples over the program.
-/
import Derived.Test.YtolmamcpjapdkaaTb3
import Derived.Test.YtolmamcpjapdkaaWid
import Derived.Test.YtolmamcpjapdkaaCw4
namespace Go.Proofs.Ytolmamcpjapdkaa.cw
open Go.RowKit tr

/-- what Of says of a scalar -/
def clsOf (r : Int) : Int := getV tabG 1 r
theorem find_le {R : List G} {c o m : Int} (h : ∀ x ∈ R, x.v ≤ m) (ho : o ≤ m) : find R c o ≤ m := by
  induction R with
  | nil => exact ho
  | cons x r ih =>
    rw [find]
    split
    · exact h x (by simp)
    · exact ih fun y hy => h y (by simp [hy])
theorem tab_le : (tab.all fun x => decide (x.2.2 ≤ 2)) = true := by kernel_rfl
theorem cls_range (r : Int) : 0 ≤ clsOf r ∧ clsOf r ≤ 2 := by
  unfold clsOf getV
  split
  · omega
  · refine ⟨(find_range tab_rising (by omega)).1, find_le (fun x hx => ?_) (by omega)⟩
    simp only [tabG, List.mem_map] at hx
    obtain ⟨y, hy, rfl⟩ := hx
    have := List.all_eq_true.1 tab_le y hy
    simpa [gOf] using this
theorem infoCs : (Try.prog.info? 3).map (fun i => (i.zero, i.size, i.bytes)) = some (some (.int .i64 0), 1, 8) := by kernel_rfl

set_option maxRecDepth 100000 in
set_option maxHeartbeats 8000000 in
theorem of_any (A : Option Addr) (n c : Nat) (rs : List Int) (w : World) (hr : Rd w 1 A n (ints .i32 rs)) (hn : n ≤ 35184372088832) :
    Calls Try.prog 7 #[.slice A n c] w fun e w' => ∃ v, e = .returned v ∧ w'.ownsRow w.heap.size 3 1 v n (ints .i64 (rs.map clsOf)) ∧ Below w.heap.size w w' := by
  obtain ⟨i0, hi, hz0, hz1, hz2⟩ := info_parts infoCs
  have HL := Lib.hid (show rs.length = n by simpa using hr.1)
  have hmk := fun W => make_wide (P := Try.prog) 25 3 i0 (.int .i64 0) 8 Try.underlying25 hi hz0 hz1 hz2 n (by omega) (by omega) W
  go_enter Try.func7, Try.ntmps7
  go_upto_region 2 with (first
    | (go_at_call 8; (with_reducible refine (table_any _).mono ?_); rintro e w1 ⟨g, ct, rfl, hct, hg1, hg2, hRG, hb1⟩)
    | (go_at_call 13; (with_reducible refine (build_any g 69 ct tabG 1 _ hRG tab_rising (by omega) (by omega) hct hg2).mono ?_); rintro e w2 ⟨gt, vi, vp, idx, gs, P, rfl, hgt, q1, q2, q3, q4, hb2⟩))
  have hTR : TR w2 gt tabG 1 := ⟨_, _, _, _, _, _, q1, q2, q3, q4⟩
  have hB2 := hb1.trans (hb2.mono hb1.size)
  have hr2 := hr.same hB2
  clear q1 q2 q3 q4 hb2 hRG hgt hr
  have hsz := hb1.size
  clear hb1
  go_upto_region 3 with (fail)
  clear hmk
  have hO0 := made_own_wide w2 3 .i64 n (by omega) (Nat.le_refl _)
  have hB0 : Below w2.heap.size w2 (w2.alloc (.cells (madeCells #[Value.int .i64 0] n) 3)) := (Below.refl _ _).alloc (Nat.le_refl _) _
  generalize w2.alloc (.cells (madeCells #[Value.int .i64 0] n) 3) = W0 at *
  have HTR := Lib.hid hTR
  have HR := Lib.hid hr2
  clear hTR hr2
  go_wp2
  go_loopw [18] (fun i wr => ∃ k : Nat, k ≤ n ∧ i = .int .i64 k ∧ wr.ownsRow w2.heap.size 3 1 (.slice (some ⟨w2.heap.size, 0, none⟩) n n) n (ints .i64 (upto (fun k => clsOf (rs.getD k 0)) k n 0)) ∧ Below w2.heap.size w2 wr)
    (fun i _ => n - (intOf i).toNat)
  case atStart => exact ⟨0, Nat.zero_le _, rfl, by simpa [upto] using hO0, hB0⟩
  case round =>
    clear hO0 hB0
    obtain ⟨k, hk, rfl, hO, hb⟩ := hrel
    by_cases hlt : k < n
    · have hkl : k < rs.length := by rw [HL.out]; exact hlt
      obtain ⟨ad, rfl, hck⟩ := (HR.out.same hb).cell_ (ints_at (K := .i32) hkl)
      have HG := Lib.hid (get_any gt tabG 1 rs[k] wr (HTR.out.below hb))
      have hF : getV tabG 1 rs[k] = clsOf (rs.getD k 0) := by rw [List.getD_eq_getElem?_getD, List.getElem?_eq_getElem hkl]; rfl
      obtain ⟨fv, hfv⟩ : ∃ fv, clsOf (rs.getD k 0) = fv := ⟨_, rfl⟩
      rw [hF, hfv] at HG
      have hcr := cls_range (rs.getD k 0)
      rw [hfv] at hcr
      have x2 : IntKind.i64.wrap fv = fv := IntWalk.i64_in _ (by omega)
      have HSET : Hid ((upto (fun k => clsOf (rs.getD k 0)) k n 0).set k fv = upto (fun k => clsOf (rs.getD k 0)) (k + 1) n 0) := by
        show _ = _
        rw [← hfv]
        exact upto_set (fun k => clsOf (rs.getD k 0)) k n 0 hlt
      have HOO := Lib.hid hO
      have HBB := Lib.hid hb
      have y1 : (k : Int) < (n : Int) := by omega
      clear hO hb hF hfv
      generalize rs[k] = x at *
      go_wp2_with (go_at_call 14; (with_reducible refine HG.out.mono ?_); rintro e w5 ⟨rfl, hb5⟩; have hB5 := HBB.out.trans (hb5.mono HBB.out.size); have hO5 := own_block HOO.out (fun g hg => hb5.block g (HOO.out.lt g hg).2); have hco := (hO5.cellAt k (by omega)).trans (show _ = some (Value.int .i64 0) from (by rw [ints, List.getElem?_map, upto_at _ _ _ _ hlt]; rfl)); have hfo := hO5.frozenAt k; have hst := (hO5.stored k (.int .i64 fv)).1; rw [ints_set, HSET.out] at hst; have HST := Lib.hid hst; have HB6 := Lib.hid (hB5.setCell (p := ⟨w2.heap.size, k, none⟩) (Nat.le_refl _) (.int .i64 fv)); clear hst hO5 hb5 hB5)
      go_roundw
      case rel => exact ⟨k + 1, by omega, by go_num, HST.out, HB6.out⟩
      case measure => simp [intOf]; omega
    · obtain rfl : k = n := by omega
      go_wp2
      go_ret
      refine ⟨_, rfl, ?_, hB2.trans (hb.mono hB2.size)⟩
      have he : upto (fun k => clsOf (rs.getD k 0)) k k 0 = rs.map clsOf := by
        apply List.ext_getElem?
        intro j
        by_cases hj : j < k
        · simp [upto, hj, HL.out, List.getD_eq_getElem?_getD]
        · rw [List.getElem?_eq_none (by simp [upto]; omega), List.getElem?_eq_none (by simp [HL.out]; omega)]
      rw [he] at hO
      exact own_lower hO hB2.size
where
  own_lower {w : World} {b b' : Nat} {e : TypeId} {s n : Nat} {v : Value} {xs : List Value} (h : w.ownsRow b' e s v n xs) (hb : b ≤ b') : w.ownsRow b e s v n xs := by
    refine ⟨h.1, ?_⟩
    rcases h.2 with hn | ⟨g, cap, cur, rfl, hbb, rest⟩
    · exact .inl hn
    · exact .inr ⟨g, cap, cur, rfl, Nat.le_trans hb hbb, rest⟩

end Go.Proofs.Ytolmamcpjapdkaa.cw
