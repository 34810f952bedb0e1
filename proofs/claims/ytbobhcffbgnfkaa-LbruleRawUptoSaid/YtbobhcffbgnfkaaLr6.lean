/-
  Layer 20: the contract of Want over the program; the walk of the statement LbruleRaw.
-/
import Derived.Test.YtbobhcffbgnfkaaLr5
import Derived.Test.YtbobhcffbgnfkaaRowB
import Derived.Test.YtbobhcffbgnfkaaLr1
namespace Go.Proofs.Ytbobhcffbgnfkaa.lr
open Go.RowKit lb

theorem infoR : (Try.prog.info? 50).map (fun i => (i.zero, i.size, i.bytes)) = some (some (.agg #[.int .i64 0, .bool false]), 2, 16) := by kernel_rfl
theorem r_one {a : Int} {d : Bool} : ∀ u ∈ (#[Value.int .i64 a, .bool d] : Array Value).toList, u.oneCell' = true := by
  intro u hu
  simp only [List.mem_cons, List.not_mem_nil, or_false] at hu
  rcases hu with rfl | rfl <;> rfl
theorem own_lower {w : World} {b b' : Nat} {e : TypeId} {s n : Nat} {v : Value} {xs : List Value} (h : w.ownsRow b' e s v n xs) (hb : b ≤ b') : w.ownsRow b e s v n xs := by
  refine ⟨h.1, ?_⟩
  rcases h.2 with hn | ⟨g, cap, cur, rfl, hbb, rest⟩
  · exact .inl hn
  · exact .inr ⟨g, cap, cur, rfl, Nat.le_trans hb hbb, rest⟩
theorem take_succ_v (us : List V) (k : Nat) (h : k < us.length) : us.take (k + 1) = us.take k ++ [us[k]] := by rw [List.take_add_one, List.getElem?_eq_getElem h]; rfl
theorem refs_succ (us : List V) (k : Nat) : (List.range (k + 1)).map (refAt us) = (List.range k).map (refAt us) ++ [refAt us k] := by simp [List.range_succ]

set_option maxRecDepth 100000 in
set_option maxHeartbeats 8000000 in
theorem want_any (A : Option Addr) (n c base : Nat) (us : List U) (w : World) (hown : w.ownsRow base 31 4 (.slice A n c) n (ucells us)) (hn : n ≤ 2097152) (hcl : ∀ u ∈ us, 0 ≤ u.cls ∧ u.cls ≤ 255) :
    Calls Try.prog 14 #[.slice A n c] w fun e w' => ∃ v, e = .returned v ∧ w'.ownsRow w.heap.size 3 1 v n (ints .i64 (between (vOf us))) ∧ Below w.heap.size w w' := by
  obtain ⟨i0, hi, hz0, hz1, hz2⟩ := info_parts infoR
  obtain ⟨j0, hj, hy0, hy1, hy2⟩ := info_parts infoI
  have HL := Lib.hid (show us.length = n by have := hown.1; rw [ucells_length] at this; omega)
  have HV := Lib.hid (show (vOf us).length = n by simp [vOf, HL.out])
  go_enter Try.func14, Try.ntmps14
  go_wp2
  go_loopw [3, 10] (fun v i wr => ∃ k : Nat, k ≤ n ∧ i = .int .i64 k ∧ wr.ownsRow w.heap.size 50 2 v k (rcells ((vOf us).take k)) ∧ Below w.heap.size w wr)
    (fun _ i _ => n - (intOf i).toNat)
  case atStart => exact ⟨0, Nat.zero_le _, rfl, World.ownsRow_nil _ _ _ _, Below.refl _ _⟩
  case round =>
    obtain ⟨k, hk, rfl, hl, hb⟩ := hrel
    by_cases hlt : k < n
    · have hkc : k < us.length := by rw [HL.out]; exact hlt
      have hw := own_block hown fun g hg => hb.block g (hown.lt g hg).2
      obtain ⟨g, cap, hv, _, hgl⟩ := hw.form (by omega)
      injection hv with hA hnn hcc
      subst hA; subst hcc
      obtain ⟨p0, p1, p2, p3⟩ := unit_cells hw (u := us[k]) (List.getElem?_eq_getElem hkc) hlt
      have HT : Hid ((vOf us).take (k + 1) = (vOf us).take k ++ [(us[k].cls, us[k].joined)]) := by
        show _ = _
        rw [take_succ_v _ _ (by rw [HV.out]; exact hlt)]
        simp [vOf]
      have hr := hcl us[k] (List.getElem_mem hkc)
      clear hw hown hcl
      generalize us[k] = u at *
      go_upto_region 5 with (fail)
      have hl1 := hl.alloc (.cells #[.int .i64 (u.frm : Int), .int .i64 (u.fin : Int), .int .u8 u.cls, .bool u.joined] 31)
      have hU1 := Blk.new wr 31 #[.int .i64 (u.frm : Int), .int .i64 (u.fin : Int), .int .u8 u.cls, .bool u.joined]
      have hb1 := hb.alloc hb.size (.cells #[.int .i64 (u.frm : Int), .int .i64 (u.fin : Int), .int .u8 u.cls, .bool u.joined] 31)
      have u2 := (hU1.cell 2).trans (show _ = some (Value.int .u8 u.cls) from rfl)
      have u3 := (hU1.cell 3).trans (show _ = some (Value.bool u.joined) from rfl)
      clear hl hb p0 p1 p2 p3 hU1
      generalize wr.alloc (.cells #[.int .i64 (u.frm : Int), .int .i64 (u.fin : Int), .int .u8 u.cls, .bool u.joined] 31) = W1 at *
      generalize wr.heap.size = bu at *
      obtain ⟨uf, ut, x, jo⟩ := u
      simp only at *
      go_wp2_with (at_builtin; refine wpList_append_new rfl (.tmp 14) (.tmp 21) 48 rfl w.heap.size w w.heap.size 50 i0 _ 2 16 Try.underlying48 hi hz0 hz1 hz2 rfl (by decide) _ _ _ rfl hl1 _ _ rfl r_one _ rfl (by simp) hb1 hb1.size (Nat.le_refl _) hb1.size (by omega) (by omega) ?_; intro v' w1 hown1 hb2 u5 u6; clear u5 u6)
      go_roundw
      case rel => exact ⟨k + 1, by omega, by go_num, by rw [HT.out, rcells_append]; simpa [rcells, rcells1] using hown1, hb2⟩
      case measure => simp [intOf]; omega
    · obtain rfl : n = k := by omega
      obtain ⟨wo, rfl⟩ : ∃ wo, wo = wr := ⟨_, rfl⟩
      rw [List.take_of_length_le (by rw [HV.out]; exact Nat.le_refl _)] at hl
      clear hown hcl
      obtain ⟨vs0, hvs⟩ : ∃ x, vOf us = x := ⟨_, rfl⟩
      rw [hvs] at hl HV
      have HVS := Lib.hid hvs
      clear hvs
      obtain ⟨A3, c3, rfl, _, _⟩ := own_slice hl
      go_wp2
      go_loopw [6, 26] (fun v i wq => ∃ k : Nat, k ≤ n ∧ i = .int .i64 k ∧ wq.ownsRow wo.heap.size 3 1 v k (ints .i64 ((List.range k).map (refAt vs0))) ∧ Below wo.heap.size wo wq)
        (fun _ i _ => n - (intOf i).toNat)
      case atStart => exact ⟨0, Nat.zero_le _, rfl, World.ownsRow_nil _ _ _ _, Below.refl _ _⟩
      case round =>
        obtain ⟨k, hk, rfl, ho, hbq⟩ := hrel
        by_cases hlt : k < n
        · have hl2 := own_block hl fun g hg => hbq.block g (hl.lt g hg).2
          have HC := Lib.hid (status_any A3 n c3 vs0 k _ (RU.of_own HV.out hl2) hn hlt)
          have HS := Lib.hid (refs_succ vs0 k)
          clear hl hl2
          generalize refAt vs0 k = st at *
          go_wp2_with (first
            | (go_at_call 18; (with_reducible refine HC.out.mono ?_); rintro e w' ⟨rfl, rfl⟩)
            | (at_builtin; refine wpList_append_one rfl (.tmp 29) (.tmp 33) 35 rfl wo.heap.size wo wo.heap.size 3 j0 (.int .i64 0) 8 Try.underlying35 hj hy0 hy1 hy2 rfl _ _ _ rfl ho _ _ rfl _ rfl (by simp) hbq hbq.size (Nat.le_refl _) hbq.size (by omega) (by omega) ?_; intro v' w1 hown1 hb2 u5 u6; clear u5 u6))
          go_roundw
          case rel => exact ⟨k + 1, by omega, by go_num, by rw [HS.out]; simpa [ints] using hown1, hb2⟩
          case measure => simp [intOf]; omega
        · obtain rfl : n = k := by omega
          clear hl
          go_wp2
          go_ret
          have he : between vs0 = (List.range n).map (refAt vs0) := by rw [between, HV.out]; exact List.map_congr_left fun k _ => (ref_status vs0 k).symm
          refine ⟨_, rfl, ?_, hb.trans (hbq.mono hb.size)⟩
          rw [HVS.out, he]
          exact own_lower ho hb.size

theorem ucells_set (us : List U) (k : Nat) (b : Bool) (h : k < us.length) : (ucells us).set (k * 4 + 3) (.bool b) = ucells (us.set k ⟨us[k].frm, us[k].fin, us[k].cls, b⟩) := by
  induction us generalizing k with
  | nil => simp at h
  | cons v r ih =>
    cases k with
    | zero => simp [ucells, U.cells]
    | succ k =>
      have := ih k (by simpa using h)
      simp only [ucells, List.flatMap_cons, List.set_cons_succ, List.getElem_cons_succ] at this ⊢
      rw [List.set_append, if_neg (by simp [U.cells]; omega), show (k + 1) * 4 + 3 - v.cells.length = k * 4 + 3 from by simp [U.cells]; omega, this]
theorem unitsOf_range (cs : List Int) (h : ∀ z ∈ cs, 0 ≤ z ∧ z ≤ 255) : ∀ u ∈ unitsOf cs, 0 ≤ u.cls ∧ u.cls ≤ 255 := by
  intro u hu
  simp only [unitsOf, List.mem_map, List.mem_range] at hu
  obtain ⟨k, hk, rfl⟩ := hu
  rw [List.getD_eq_getElem?_getD, List.getElem?_eq_getElem hk]
  exact h _ (List.getElem_mem hk)
theorem classes_range (zs : List Int) : ∀ z ∈ classes43 zs, 0 ≤ z ∧ z ≤ 255 := by
  intro z hz
  simp only [classes43, List.mem_map] at hz
  obtain ⟨y, _, rfl⟩ := hz
  omega

set_option maxRecDepth 100000 in
set_option maxHeartbeats 8000000 in
theorem raw_law (A : Option Addr) (n c : Nat) (zs : List Int) (A' : Option Addr) (n' c' : Nat) (bs : List Bool) (w : World)
    (hr : Rd w 1 A n (ints .u8 zs)) (hz : ∀ z ∈ zs, 0 ≤ z ∧ z ≤ 255) (hr' : Rd w 1 A' n' (bools bs)) (hn : n + n' ≤ 1048576) :
    Calls Try.prog 3 #[.slice A n c, .slice A' n' c'] w fun e w' => e = .returned (.bool true) ∧ Below w.heap.size w w' := by
  go_enter Try.func3, Try.ntmps3
  go_wp2_with fail
  refine (awake20_any _).mono ?_
  rintro e w1 ⟨rfl, hb1⟩
  go_wp2_with fail
  refine (classes43_any _ _ _ zs _ (hr.same hb1) (by omega) hz).mono ?_
  rintro e w2 ⟨v2, rfl, hown2, hb2⟩
  have hB2 := hb1.trans (hb2.mono hb1.size)
  obtain ⟨A2, c2, rfl, _, hl2⟩ := own_slice hown2
  have HRG := Lib.hid (unitsOf_range _ (classes_range zs))
  clear hown2 hb1 hb2 hr hz
  generalize classes43 zs = cs at *
  have HLc := Lib.hid (show cs.length = n by simpa using hl2.1)
  go_wp2_with fail
  refine (of_any _ _ _ cs _ hl2 (by omega)).mono ?_
  rintro e w3 ⟨v3, rfl, hown3, hb3⟩
  have hB3 := hB2.trans (hb3.mono hB2.size)
  have HLb := Lib.hid (show bs.length = n' by have := hr'.1; simpa [bools] using this)
  obtain ⟨A3, c3, rfl, _, _⟩ := own_slice hown3
  have hlu : (unitsOf cs).length = n := by simp [unitsOf, HLc.out]
  clear hl2 hb3
  go_wp2
  go_loopw [6] (fun i wr => ∃ (k : Nat) (us : List U), k ≤ n ∧ k ≤ n' ∧ i = .int .i64 k ∧ us.length = n ∧ (∀ u ∈ us, 0 ≤ u.cls ∧ u.cls ≤ 255) ∧ wr.ownsRow w2.heap.size 31 4 (.slice A3 n c3) n (ucells us) ∧ Below w.heap.size w3 wr)
    (fun i _ => n - (intOf i).toNat)
  case atStart => exact ⟨0, unitsOf cs, Nat.zero_le _, Nat.zero_le _, rfl, hlu, HRG.out, hown3, Below.refl _ _⟩
  case round =>
    clear hown3 hlu
    obtain ⟨k, us, hk, hk', rfl, hlu, hrg, ho, hb⟩ := hrel
    by_cases hlt : k < n ∧ k < n'
    · obtain ⟨hlt, hlt'⟩ := hlt
      have hkc : k < us.length := by rw [hlu]; exact hlt
      have hkb : k < bs.length := by rw [HLb.out]; exact hlt'
      obtain ⟨ad, rfl, hcb⟩ := (hr'.same (hB3.trans hb)).cell_ (bools_at hkb)
      obtain ⟨g, cap, hv, hg1, hgl⟩ := ho.form (by omega)
      injection hv with hA hnn hcc
      subst hA; subst hcc
      have hco := (unit_cells ho (u := us[k]) (List.getElem?_eq_getElem hkc) hlt).2.2.2
      have hfo := ho.frozenAt (k * 4 + 3)
      have ho1 := (ho.stored (k * 4 + 3) (.bool bs[k])).1
      rw [ucells_set us k _ hkc] at ho1
      have hg0 : w.heap.size ≤ g := Nat.le_trans hB2.size hg1
      have hb1 := hb.setCell (p := ⟨g, k * 4 + 3, none⟩) hg0 (.bool bs[k])
      have HN : Hid (∃ us' : List U, us'.length = n ∧ (∀ u ∈ us', 0 ≤ u.cls ∧ u.cls ≤ 255) ∧ (wr.setCell ⟨g, k * 4 + 3, none⟩ (.bool bs[k])).ownsRow w2.heap.size 31 4 (.slice (some ⟨g, 0, none⟩) n c3) n (ucells us')) := by
        refine ⟨_, ?_, ?_, ho1⟩
        · simp [hlu]
        · intro u hu
          rcases List.mem_or_eq_of_mem_set hu with hu | rfl
          · exact hrg u hu
          · exact hrg us[k] (List.getElem_mem hkc)
      have y1 : (k : Int) < (n : Int) := by omega
      have y2 : (k : Int) < (n' : Int) := by omega
      clear ho ho1 hr' hnn
      generalize bs[k] = bb at *
      go_wp2
      go_roundw
      case rel =>
        obtain ⟨us', q1, q2, q3⟩ := HN.out
        exact ⟨k + 1, us', by omega, by omega, by go_num, q1, q2, q3, hb1⟩
      case measure => simp [intOf]; omega
    · have hB := hB3.trans hb
      have hlt2 : (k : Int) < (n : Int) → (n' : Int) ≤ (k : Int) := by omega
      clear hr'
      have hbt := between_any A3 n c3 w2.heap.size us wr ho (by omega)
      have HBT := Lib.hid hbt
      have HWT := Lib.hid (fun (w' : World) (h : w'.ownsRow w2.heap.size 31 4 (.slice A3 n c3) n (ucells us)) => want_any A3 n c3 w2.heap.size us w' h (by omega) hrg)
      clear hbt
      rcases (show (n ≤ k) ∨ (k < n ∧ n' ≤ k) from by omega) with hge | ⟨hge, hge'⟩
      · go_wp2_with (first
          | (go_at_call 13; (with_reducible refine HBT.out.mono ?_); rintro e w5 ⟨v5, rfl, hr5, hb5⟩; have ho5 := own_block ho fun g hg => hb5.block g (ho.lt g hg).2; obtain ⟨A5, c5, rfl, _, hl5⟩ := own_slice hr5; have hB5 := hB.trans (hb5.mono hB.size))
          | (go_at_call 14; (with_reducible refine (HWT.out _ ho5).mono ?_); rintro e w6 ⟨v6, rfl, hr6, hb6⟩; have hl56 := hl5.same hb6; obtain ⟨A6, c6, rfl, _, hl6⟩ := own_slice hr6; have hB6 := hB5.trans (hb6.mono hB5.size))
          | (go_at_call 12; (with_reducible refine (are_yes A5 n c5 A6 n c6 _ _ hl56 hl6 (by omega)).mono ?_); rintro e w7 ⟨rfl, hb7⟩; have hB7 := hB6.trans (hb7.mono hB6.size)))
        go_ret
        exact ⟨rfl, hB7⟩
      · have y1 : (k : Int) < (n : Int) := by omega
        have y2 : (n' : Int) ≤ (k : Int) := by omega
        go_wp2_with (first
          | (go_at_call 13; (with_reducible refine HBT.out.mono ?_); rintro e w5 ⟨v5, rfl, hr5, hb5⟩; have ho5 := own_block ho fun g hg => hb5.block g (ho.lt g hg).2; obtain ⟨A5, c5, rfl, _, hl5⟩ := own_slice hr5; have hB5 := hB.trans (hb5.mono hB.size))
          | (go_at_call 14; (with_reducible refine (HWT.out _ ho5).mono ?_); rintro e w6 ⟨v6, rfl, hr6, hb6⟩; have hl56 := hl5.same hb6; obtain ⟨A6, c6, rfl, _, hl6⟩ := own_slice hr6; have hB6 := hB5.trans (hb6.mono hB5.size))
          | (go_at_call 12; (with_reducible refine (are_yes A5 n c5 A6 n c6 _ _ hl56 hl6 (by omega)).mono ?_); rintro e w7 ⟨rfl, hb7⟩; have hB7 := hB6.trans (hb7.mono hB6.size)))
        go_ret
        exact ⟨rfl, hB7⟩
end Go.Proofs.Ytbobhcffbgnfkaa.lr
