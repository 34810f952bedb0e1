/-
  Layer 7: the walk of the statement CellwParts.
-/
import Derived.Test.YtolmamcpjapdkaaCw6
import Derived.Test.YtolmamcpjapdkaaCw7
namespace Go.Proofs.Ytolmamcpjapdkaa.cw
open Go.RowKit tr

theorem cls_letter : ∀ j : Fin 26, clsOf (97 + (j.val : Int)) = 1 := by decide +kernel
theorem cls_digit : ∀ j : Fin 10, clsOf (48 + (j.val : Int)) = 1 := by decide +kernel
theorem cls_hangul {r : Int} (h1 : 44032 ≤ r) (h2 : r ≤ 55203) : clsOf r = 2 := by
  have hk : 52 < tabG.length := by rw [tabG_length]; omega
  have hv : tabG[52] = ⟨44032, 55203, 2⟩ := by
    have : tabG[52]? = some ⟨44032, 55203, 2⟩ := by kernel_rfl
    rw [List.getElem?_eq_getElem hk] at this
    injection this
  have hf : find tabG r 1 = tabG[52].v := by
    refine find_hit tab_rising hk (fun i hi hik => ?_) (by rw [hv]; exact h1) (by rw [hv]; exact h2)
    have := Rising.lt tab_rising hik hk
    rw [hv] at this
    exact Int.lt_of_lt_of_le this h1
  rw [clsOf, getV, if_neg (by omega), hf, hv]

theorem Addr.add_zero_ (a : Addr) : a.add 0 = a := by unfold Addr.add; simp
theorem slice_one (ad : Addr) (n c i : Nat) (hi : i < n) (hnc : n ≤ c) (W : World) :
    (Instr.sliceAt 22 (.slice (some ad) n c) (some (.int .i64 (i : Int))) (some (.int .i64 ((i : Int) + 1))) none).run Try.prog W = .ok (.slice (some (ad.add i)) 1 (c - i)) W := by
  have hu := Try.underlying22
  have h2 : ¬ c = i := by omega
  have h3 : (i : Int) + 1 ≤ (c : Int) := by omega
  simp [Instr.sliceAt, go_sem, h2, h3]
  intro h
  omega
theorem rd_one {w : World} {ad : Addr} {n i : Nat} {rs : List Int} (h : Rd w 1 (some ad) n (ints .i32 rs)) (hi : i < rs.length) : Rd w 1 (some (ad.add i)) 1 (ints .i32 [rs[i]]) := by
  refine ⟨rfl, fun _ => ⟨ad.add i, rfl, fun j u hu => ?_⟩⟩
  obtain ⟨ad', he, hc⟩ := h.cell_ (ints_at (K := .i32) hi)
  injection he with he
  subst he
  cases j with
  | zero =>
    simp only [ints, List.map_cons, List.map_nil, List.getElem?_cons_zero, Option.some.injEq] at hu
    rw [add_of_add, Nat.add_zero, hc, hu]
  | succ j => simp [ints] at hu
theorem few_cls (a b d : Nat) (ha : a < 26) (hb : b < 10) (hd : d < 11172) : [97 + (a : Int), 48 + (b : Int), 44032 + (d : Int)].map clsOf = [1, 1, 2] := by
  simp only [List.map_cons, List.map_nil]
  rw [cls_letter ⟨a, ha⟩, cls_digit ⟨b, hb⟩, cls_hangul (by omega) (by omega)]

set_option maxRecDepth 100000 in
set_option maxHeartbeats 8000000 in
theorem parts_law (A : Option Addr) (n c : Nat) (rs : List Int) (x : Int) (w : World) (hr : Rd w 1 A n (ints .i32 rs)) (hnc : n ≤ c) (hx : 0 ≤ x ∧ x ≤ 65535) (hn : n ≤ 35184372088832) :
    Calls Try.prog 5 #[.slice A n c, .int .u16 x] w fun e w' => e = .returned (.bool true) ∧ Below w.heap.size w w' := by
  have hL : rs.length = n := by simpa using hr.1
  obtain ⟨xn, rfl⟩ : ∃ xn : Nat, x = (xn : Int) := ⟨x.toNat, by omega⟩
  obtain ⟨a, ha⟩ : ∃ a, xn % 26 = a := ⟨_, rfl⟩
  obtain ⟨b, hb⟩ : ∃ b, xn % 10 = b := ⟨_, rfl⟩
  obtain ⟨d, hd⟩ : ∃ d, xn % 11172 = d := ⟨_, rfl⟩
  have ha2 : a < 26 := by omega
  have hb2 : b < 10 := by omega
  have hd2 : d < 11172 := by omega
  have u1 : ((xn : Int).tmod 26) = (a : Int) := by rw [Int.tmod_eq_emod_of_nonneg (by omega)]; omega
  have u2 : ((xn : Int).tmod 10) = (b : Int) := by rw [Int.tmod_eq_emod_of_nonneg (by omega)]; omega
  have u3 : ((xn : Int).tmod 11172) = (d : Int) := by rw [Int.tmod_eq_emod_of_nonneg (by omega)]; omega
  have x6 : IntKind.i64.wrap (xn : Int) = (xn : Int) := IntWalk.i64_in _ (by omega)
  have v1 : IntKind.i64.wrap (97 + (a : Int)) = 97 + (a : Int) := IntWalk.i64_in _ (by omega)
  have v2 : IntKind.i64.wrap (48 + (b : Int)) = 48 + (b : Int) := IntWalk.i64_in _ (by omega)
  have v3 : IntKind.i64.wrap (44032 + (d : Int)) = 44032 + (d : Int) := IntWalk.i64_in _ (by omega)
  have v4 : IntKind.i32.wrap (97 + (a : Int)) = 97 + (a : Int) := by simp [IntKind.wrap, IntKind.signed, IntKind.bits]; omega
  have v5 : IntKind.i32.wrap (48 + (b : Int)) = 48 + (b : Int) := by simp [IntKind.wrap, IntKind.signed, IntKind.bits]; omega
  have v6 : IntKind.i32.wrap (44032 + (d : Int)) = 44032 + (d : Int) := by simp [IntKind.wrap, IntKind.signed, IntKind.bits]; omega
  have hfew := Lib.hid (few_cls a b d ha2 hb2 hd2)
  have F0 := Lib.hid (fun (W : World) => of_any (some ⟨W.heap.size, 0, none⟩) 3 3 [97 + (a : Int), 48 + (b : Int), 44032 + (d : Int)] (W.alloc (.cells #[.int .i32 (97 + (a : Int)), .int .i32 (48 + (b : Int)), .int .i32 (44032 + (d : Int))] 21)) (lit_rd (w := W) (g := W.heap.size) #[.int .i32 (97 + (a : Int)), .int .i32 (48 + (b : Int)), .int .i32 (44032 + (d : Int))] 3 (by omega) rfl rfl) (by omega))
  clear ha hb hd
  have HR := Lib.hid hr
  have HL := Lib.hid hL
  clear hr hL
  go_enter Try.func5, Try.ntmps5
  go_upto_region 4 with (first
    | (go_at_call 6; (with_reducible refine (awake_any _).mono ?_); rintro e w1 ⟨rfl, hb1⟩)
    | (go_at_call 7; (with_reducible refine (F0.out _).mono ?_); rintro e w2 ⟨v2, rfl, hO2, hb2⟩))
  rw [hfew.out] at hO2
  have hB2 : Below w.heap.size w w2 := hb1.trans ((((Below.refl _ _).alloc (Nat.le_refl _) _).trans (hb2.mono (by simp))).mono hb1.size)
  obtain ⟨g, c', rfl, _, _⟩ := hO2.form (by omega)
  have c0 := hO2.cellAt 0 (by omega)
  have c1 := hO2.cellAt 1 (by omega)
  have c2 := hO2.cellAt 2 (by omega)
  simp only [ints, List.map_cons, List.map_nil, List.getElem?_cons_zero, List.getElem?_cons_succ] at c0 c1 c2
  clear hO2 hb1 hb2 F0 hfew v1 v2 v3 v4 v5 v6 u1 u2 u3
  go_upto_region 6 with (fail)
  clear c0 c1 c2
  rcases Nat.eq_zero_or_pos n with h0 | h0
  · subst h0
    go_wp2_with (go_at_call 7; (with_reducible refine (of_any _ _ _ rs _ (HR.out.same hB2) (by omega)).mono ?_); rintro e w3 ⟨v3, rfl, hO3, hb3⟩; have hB3 := hB2.trans (hb3.mono hB2.size); obtain ⟨A3, c3, rfl, _, _⟩ := own_slice hO3)
    all_goals go_ret
    all_goals exact ⟨rfl, hB3⟩
  · obtain ⟨i, hi⟩ : ∃ i, xn % n = i := ⟨_, rfl⟩
    have hin : i < n := by rw [← hi]; exact Nat.mod_lt _ h0
    have hil : i < rs.length := by rw [HL.out]; exact hin
    obtain ⟨ad, rfl, _⟩ := HR.out.2 h0
    have x1 : ((xn : Int).tmod (n : Int)) = (i : Int) := by rw [Int.tmod_eq_emod_of_nonneg (by omega), ← hi]; rfl
    have x0 : (n : Int) ≠ 0 := by omega
    have x2 : ((n : Int) == 0) = false := by simp; omega
    have x3 : (n == 0) = false := by simp; omega
    have hsl := slice_one ad n c i hin hnc
    have x5 : IntKind.i64.wrap ((i : Int) + 1) = (i : Int) + 1 := IntWalk.i64_in _ (by omega)
    have x7 : IntKind.i64.wrap (i : Int) = (i : Int) := IntWalk.i64_in _ (by omega)
    have y5 : (i : Int) + 1 ≤ (c : Int) := by omega
    have y6 : (i : Int) ≤ (i : Int) + 1 := by omega
    have y7 : (0 : Int) ≤ (i : Int) := by omega
    clear hi
    go_upto_region 9 with (fail)
    have HA := Lib.hid (fun (W : World) (h : Below w.heap.size w W) => of_any (some ad) n c rs W (HR.out.same h) (by omega))
    have HB := Lib.hid (fun (W : World) (h : Below w.heap.size w W) => of_any (some (ad.add i)) 1 (c - i) [rs[i]] W (rd_one (HR.out.same h) hil) (by omega))
    have hb1' := hB2.drew
    go_region_held3 (fun w' => True) (trivial)
      (first
        | (go_at_call 7; (with_reducible refine (HA.out _ (by assumption)).mono ?_); rintro e wa ⟨va, rfl, hOa, hba⟩; have hBa : Below w.heap.size w wa := (by first | exact hb1'.trans (hba.mono hb1'.size) | exact hBb.trans (hba.mono hBb.size)); obtain ⟨Aa, ca, rfl, _, hla⟩ := own_slice hOa)
        | (go_at_call 7; (with_reducible refine (HB.out _ (by assumption)).mono ?_); rintro e wb ⟨vb, rfl, hOb, hbb⟩; have hBb : Below w.heap.size w wb := (by first | exact hb1'.trans (hbb.mono hb1'.size) | exact hBa.trans (hbb.mono hBa.size)); obtain ⟨Ab, cb, rfl, _, hlb⟩ := own_slice hOb))
    all_goals first
      | (have hlf := hla.same hbb; have hlg := hlb; have hBf := hBb; clear hla hlb hba hbb hBa hBb hOa hOb)
      | (have hlf := hla; have hlg := hlb.same hba; have hBf := hBa; clear hla hlb hba hbb hBa hBb hOa hOb)
    all_goals
      obtain ⟨ad1, rfl, e1⟩ := hlf.cell_ (show (ints .i64 (rs.map clsOf))[i]? = some (.int .i64 (clsOf rs[i])) from by simp [ints, hil])
      obtain ⟨ad2, rfl, e2⟩ := hlg.cell_ (show (ints .i64 ([rs[i]].map clsOf))[0]? = some (.int .i64 (clsOf rs[i])) from by simp [ints])
    all_goals
      have e2' := (show _ = _ from e2)
      rw [Addr.add_zero_] at e2'
      generalize clsOf rs[i] = v at *
      have y1 : (i : Int) < (n : Int) := by omega
      clear hlf hlg
      go_wp2
      go_upto_region 10 with (fail)
      go_quiet (fail)
      go_wp2
      go_ret
      exact ⟨rfl, drawn hBf _⟩
end Go.Proofs.Ytolmamcpjapdkaa.cw
