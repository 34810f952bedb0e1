/-
  Layer 4: the contracts of bidic.Of and of the document's examples over the program.
-/
import Derived.Test.YtpipeemoikdlaaaTb3
import Derived.Test.YtpipeemoikdlaaaWid
import Derived.Test.YtpipeemoikdlaaaTb4
namespace Go.Proofs.Ytpipeemoikdlaaa.tr
open Go.RowKit

/-- what Of says of a scalar -/
def clsOf (r : Int) : Int := getV tabG 0 r
theorem find_out {last : Int} {R : List G} {c o : Int} (h : Rising last R) (hc : c < 0 ∨ 1114111 < c) : find R c o = o := by
  induction R generalizing last with
  | nil => rfl
  | cons x r ih =>
    obtain ⟨h1, h2, h3, h4, h5, h6, h7⟩ := h
    rw [find, if_neg (by omega)]
    exact ih h7
theorem cls_find (r : Int) : clsOf r = find tabG r 0 := by
  unfold clsOf getV
  split
  · rename_i h; exact (find_out tab_rising h).symm
  · rfl
theorem cls_range (r : Int) : 0 ≤ clsOf r ∧ clsOf r ≤ 255 := by rw [cls_find]; exact find_range tab_rising (by omega)
theorem infoCs : (Try.prog.info? 38).map (fun i => (i.zero, i.size, i.bytes)) = some (some (.int .u8 0), 1, 1) := by kernel_rfl

set_option maxRecDepth 100000 in
set_option maxHeartbeats 8000000 in
theorem of_any (A : Option Addr) (n c : Nat) (rs : List Int) (w : World) (hr : Rd w 1 A n (ints .i32 rs)) (hn : n ≤ 35184372088832) :
    Calls Try.prog 12 #[.slice A n c] w fun e w' => ∃ v, e = .returned v ∧ w'.ownsRow w.heap.size 38 1 v n (ints .u8 (rs.map clsOf)) ∧ Below w.heap.size w w' := by
  obtain ⟨i0, hi, hz0, hz1, hz2⟩ := info_parts infoCs
  have HL := Lib.hid (show rs.length = n by simpa using hr.1)
  have hmk := fun W => make_wide (P := Try.prog) 36 38 i0 (.int .u8 0) 1 Try.underlying36 hi hz0 hz1 hz2 n (by omega) (by omega) W
  go_enter Try.func12, Try.ntmps12
  go_upto_region 2 with (first
    | (go_at_call 9; (with_reducible refine (table_any _).mono ?_); rintro e w1 ⟨g, ct, rfl, hct, hg1, hg2, hRG, hb1⟩)
    | (go_at_call 20; (with_reducible refine (build_any g 188 ct tabG 0 _ hRG tab_rising (by omega) (by omega) hct hg2).mono ?_); rintro e w2 ⟨gt, vi, vp, idx, gs, P, rfl, hgt, q1, q2, q3, q4, hb2⟩))
  have hTR : TR w2 gt tabG 0 := ⟨_, _, _, _, _, _, q1, q2, q3, q4⟩
  have hB2 := hb1.trans (hb2.mono hb1.size)
  have hr2 := hr.same hB2
  clear q1 q2 q3 q4 hb2 hRG hgt hr
  have hsz := hb1.size
  clear hb1
  go_upto_region 3 with (fail)
  clear hmk
  have hO0 := made_own_wide w2 38 .u8 n (by omega) (Nat.le_refl _)
  have hB0 : Below w2.heap.size w2 (w2.alloc (.cells (madeCells #[Value.int .u8 0] n) 38)) := (Below.refl _ _).alloc (Nat.le_refl _) _
  generalize w2.alloc (.cells (madeCells #[Value.int .u8 0] n) 38) = W0 at *
  have HTR := Lib.hid hTR
  have HR := Lib.hid hr2
  clear hTR hr2
  go_wp2
  go_loopw [18] (fun i wr => ∃ k : Nat, k ≤ n ∧ i = .int .i64 k ∧ wr.ownsRow w2.heap.size 38 1 (.slice (some ⟨w2.heap.size, 0, none⟩) n n) n (ints .u8 (upto (fun k => clsOf (rs.getD k 0)) k n 0)) ∧ Below w2.heap.size w2 wr)
    (fun i _ => n - (intOf i).toNat)
  case atStart => exact ⟨0, Nat.zero_le _, rfl, by simpa [upto] using hO0, hB0⟩
  case round =>
    clear hO0 hB0
    obtain ⟨k, hk, rfl, hO, hb⟩ := hrel
    by_cases hlt : k < n
    · have hkl : k < rs.length := by rw [HL.out]; exact hlt
      obtain ⟨ad, rfl, hck⟩ := (HR.out.same hb).cell_ (ints_at (K := .i32) hkl)
      have HG := Lib.hid (get_any gt tabG 0 rs[k] wr (HTR.out.below hb))
      have hF : getV tabG 0 rs[k] = clsOf (rs.getD k 0) := by rw [List.getD_eq_getElem?_getD, List.getElem?_eq_getElem hkl]; rfl
      obtain ⟨fv, hfv⟩ : ∃ fv, clsOf (rs.getD k 0) = fv := ⟨_, rfl⟩
      rw [hF, hfv] at HG
      have HSET : Hid ((upto (fun k => clsOf (rs.getD k 0)) k n 0).set k fv = upto (fun k => clsOf (rs.getD k 0)) (k + 1) n 0) := by
        show _ = _
        rw [← hfv]
        exact upto_set (fun k => clsOf (rs.getD k 0)) k n 0 hlt
      have HOO := Lib.hid hO
      have HBB := Lib.hid hb
      have y1 : (k : Int) < (n : Int) := by omega
      clear hO hb hF hfv
      generalize rs[k] = x at *
      go_wp2_with (go_at_call 21; (with_reducible refine HG.out.mono ?_); rintro e w5 ⟨rfl, hb5⟩; have hB5 := HBB.out.trans (hb5.mono HBB.out.size); have hO5 := own_block HOO.out (fun g hg => hb5.block g (HOO.out.lt g hg).2); have hco := (hO5.cellAt k (by omega)).trans (show _ = some (Value.int .u8 0) from (by rw [ints, List.getElem?_map, upto_at _ _ _ _ hlt]; rfl)); have hfo := hO5.frozenAt k; have hst := (hO5.stored k (.int .u8 fv)).1; rw [ints_set, HSET.out] at hst; have HST := Lib.hid hst; have HB6 := Lib.hid (hB5.setCell (p := ⟨w2.heap.size, k, none⟩) (Nat.le_refl _) (.int .u8 fv)); clear hst hO5 hb5 hB5)
      go_roundw
      case rel => exact ⟨k + 1, by omega, by go_num, HST.out, HB6.out⟩
      case measure => simp [intOf]; omega
    · obtain rfl : k = n := by omega
      go_wp2
      go_ret
      refine ⟨_, rfl, ?_, hB2.trans (hb.mono hB2.size)⟩
      have he : upto (fun k => clsOf (rs.getD k 0)) k k 0 = rs.map clsOf := by
        apply List.ext_getElem?
        intro j
        by_cases hj : j < k
        · simp [upto, hj, HL.out, List.getD_eq_getElem?_getD]
        · rw [List.getElem?_eq_none (by simp [upto]; omega), List.getElem?_eq_none (by simp [HL.out]; omega)]
      rw [he] at hO
      exact own_lower hO hB2.size
where
  own_lower {w : World} {b b' : Nat} {e : TypeId} {s n : Nat} {v : Value} {xs : List Value} (h : w.ownsRow b' e s v n xs) (hb : b ≤ b') : w.ownsRow b e s v n xs := by
    refine ⟨h.1, ?_⟩
    rcases h.2 with hn | ⟨g, cap, cur, rfl, hbb, rest⟩
    · exact .inl hn
    · exact .inr ⟨g, cap, cur, rfl, Nat.le_trans hb hbb, rest⟩

theorem awake_cls : [97, 1488, 1633, 49, 8295].map clsOf = [0, 1, 6, 3, 20] := by decide +kernel
set_option maxHeartbeats 4000000 in
theorem awake_any (w : World) : Calls Try.prog 8 #[] w fun e w' => e = .returned (.bool true) ∧ Below w.heap.size w w' := by
  have C0 := Lib.hid (of_any (some ⟨w.heap.size, 0, none⟩) 5 5 [97, 1488, 1633, 49, 8295] (w.alloc (.cells #[.int .i32 97, .int .i32 1488, .int .i32 1633, .int .i32 49, .int .i32 8295] 21)) (lit_rd (w := w) (g := w.heap.size) #[.int .i32 97, .int .i32 1488, .int .i32 1633, .int .i32 49, .int .i32 8295] 5 (by omega) rfl rfl) (by omega))
  go_enter Try.func8, Try.ntmps8
  go_upto_region 2 with (go_at_call 12; (with_reducible refine C0.out.mono ?_); rintro e w1 ⟨v, rfl, hO, hb⟩)
  rw [awake_cls] at hO
  obtain ⟨g, c, rfl, _, _⟩ := hO.form (by omega)
  have c0 := hO.cellAt 0 (by omega)
  have c1 := hO.cellAt 1 (by omega)
  have c2 := hO.cellAt 2 (by omega)
  have c3 := hO.cellAt 3 (by omega)
  have c4 := hO.cellAt 4 (by omega)
  simp only [ints, List.map_cons, List.map_nil, List.getElem?_cons_zero, List.getElem?_cons_succ] at c0 c1 c2 c3 c4
  have hB : Below w.heap.size w w1 := ((Below.refl _ _).alloc (Nat.le_refl _) _).trans (hb.mono (by simp))
  clear hO hb C0
  go_wp2
  all_goals go_ret
  all_goals exact ⟨rfl, hB⟩
end Go.Proofs.Ytpipeemoikdlaaa.tr
