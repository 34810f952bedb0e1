/-
  Layer 20: the contract of lbrule.Between over the program.
-/
import Derived.Test.YtbobhcffbgnfkaaLru
import Derived.StillTailTactics
namespace Go.Proofs.Ytbobhcffbgnfkaa.lr
open Go.RowKit

/-- a row of which the first k cells are laid -/
def upto {α : Type} (F : Nat → α) (k n : Nat) (z : α) : List α := (List.range k).map F ++ List.replicate (n - k) z
theorem upto_length {α : Type} (F : Nat → α) (k n : Nat) (z : α) (h : k ≤ n) : (upto F k n z).length = n := by simp [upto]; omega
theorem upto_set {α : Type} (F : Nat → α) (k n : Nat) (z : α) (h : k < n) : (upto F k n z).set k (F k) = upto F (k + 1) n z := by
  rw [upto, upto, List.set_append, if_neg (by simp), show n - k = (n - (k + 1)) + 1 from by omega, List.replicate_succ, List.range_succ]
  simp
theorem upto_at {α : Type} (F : Nat → α) (k n : Nat) (z : α) (h : k < n) : (upto F k n z)[k]? = some z := by
  rw [upto, List.getElem?_append_right (by simp), List.length_map, List.length_range, Nat.sub_self, List.getElem?_replicate, if_pos (by omega)]
theorem upto_skip {α : Type} (F : Nat → α) (k n : Nat) (z : α) (h : k < n) (hz : F k = z) : upto F k n z = upto F (k + 1) n z := by
  rw [← upto_set F k n z h, hz]
  symm
  apply List.ext_getElem?
  intro i
  rw [List.getElem?_set]
  split
  · rename_i hi
    subst hi
    rw [if_pos (by rw [upto_length F k n z (by omega)]; exact h), upto_at F k n z h]
  · rfl
theorem own_blk_ne {w : World} {base : Nat} {e t : TypeId} {size n g' c : Nat} {xs : List Value} {cs : Array Value} (h : w.ownsRow base e size (.slice (some ⟨g', 0, none⟩) n c) n xs) {g : Nat} (hg : Blk w g t cs) (hne : e ≠ t) : g' ≠ g := by
  rintro rfl
  rcases h.2 with ⟨hv, _⟩ | ⟨g2, cap, cur, hv, _, hh, _⟩
  · cases hv
  · injection hv with hA
    injection hA with hA
    injection hA with hA
    subst hA
    unfold Blk at hg
    rw [hg] at hh
    injection hh with hh
    injection hh with _ ht
    exact hne ht.symm

theorem blk_new (w : World) (t : TypeId) (cs : Array Value) (g : Nat) (hg : g = w.heap.size) : Blk (w.alloc (.cells cs t)) g t cs := by subst hg; exact heap_alloc_new w _

set_option maxRecDepth 100000 in
set_option maxHeartbeats 16000000 in
theorem between_any (A : Option Addr) (n c base : Nat) (us : List U) (w : World) (hown : w.ownsRow base 31 4 (.slice A n c) n (ucells us)) (hn : n ≤ 2097152) :
    Calls Try.prog 13 #[.slice A n c] w fun e w' => ∃ v, e = .returned v ∧ w'.ownsRow w.heap.size 38 1 v n (ints .i64 (between (vOf us))) ∧ Below w.heap.size w w' := by
  obtain ⟨i0, hi, hz0, hz1, hz2⟩ := info_parts infoSt
  have HL := Lib.hid (show us.length = n by have := hown.1; rw [ucells_length] at this; omega)
  have hmk := fun W => make_one (P := Try.prog) 33 38 i0 (.int .i64 0) 8 Try.underlying33 hi hz0 hz1 hz2 n (by omega) (by omega) W
  go_enter Try.func13, Try.ntmps13
  go_upto_region 3 with (fail)
  clear hmk
  have hO0 := (made_own w 38 .i64 n (by omega) (Nat.le_refl _)).alloc (.cells #[.int .u8 0, .bool false, .int .u8 0, .bool false, .int .i64 0, .int .i64 0] 45)
  have hS0 := blk_new (w.alloc (.cells (madeCells #[Value.int .i64 0] n) 38)) 45 #[.int .u8 0, .bool false, .int .u8 0, .bool false, .int .i64 0, .int .i64 0] (w.heap.size + 1) (by simp)
  have hB0 : Below w.heap.size w ((w.alloc (.cells (madeCells #[Value.int .i64 0] n) 38)).alloc (.cells #[.int .u8 0, .bool false, .int .u8 0, .bool false, .int .i64 0, .int .i64 0] 45)) :=
    ((Below.refl _ _).alloc (Nat.le_refl _) _).alloc (by simp) _
  generalize (w.alloc (.cells (madeCells #[Value.int .i64 0] n) 38)).alloc (.cells #[.int .u8 0, .bool false, .int .u8 0, .bool false, .int .i64 0, .int .i64 0] 45) = W0 at *
  have HV := Lib.hid (show (vOf us).length = n by simp [vOf, HL.out])
  have HVat : Hid (∀ k (h : k < us.length), (vOf us).getD k (0, false) = (us[k].cls, us[k].joined)) := fun k h => by
    rw [List.getD_eq_getElem?_getD, vOf, List.getElem?_map, List.getElem?_eq_getElem h]; rfl
  go_wp2
  go_loopw [15] (fun i wr => ∃ k : Nat, k ≤ n ∧ i = .int .i64 k ∧ wr.ownsRow w.heap.size 38 1 (.slice (some ⟨w.heap.size, 0, none⟩) n n) n (ints .i64 (upto (statusAt (vOf us)) k n 0)) ∧
      Blk wr (w.heap.size + 1) 45 (stateTo (vOf us) k).cells ∧ Below w.heap.size w wr)
    (fun i _ => n - (intOf i).toNat)
  case atStart => exact ⟨0, Nat.zero_le _, rfl, by simpa [upto] using hO0, hS0, hB0⟩
  case round =>
    clear hO0 hS0 hB0
    obtain ⟨k, hk, rfl, hO, hS, hb⟩ := hrel
    by_cases hlt : k < n
    · have hkc : k < us.length := by rw [HL.out]; exact hlt
      have hw := own_block hown fun g hg => hb.block g (hown.lt g hg).2
      obtain ⟨g, cap, hv, _, hgl⟩ := hw.form (by omega)
      injection hv with hA hnn hcc
      subst hA; subst hcc
      obtain ⟨p0, p1, p2, p3⟩ := unit_cells hw (u := us[k]) (List.getElem?_eq_getElem hkc) hlt
      have HN : Hid (∀ m (h : m < us.length), m < n → wr.cell? ⟨g, m * 4 + 2, none⟩ = some (.int .u8 us[m].cls)) := fun m h hm => (unit_cells hw (u := us[m]) (List.getElem?_eq_getElem h) hm).2.2.1
      have hst : stateTo (vOf us) (k + 1) = (stateTo (vOf us) k).step us[k].cls us[k].joined := by rw [stateTo, HVat.out k hkc]
      have hsa : k = 0 ∨ statusAt (vOf us) k = aheadI (stateTo (vOf us) k) us[k].cls (afterOf (vOf us) k) := by
        by_cases h0 : k = 0
        · exact .inl h0
        · right; rw [statusAt, if_neg h0, HVat.out k hkc]
      have haf : (n = k + 1 ∧ afterOf (vOf us) k = 0) ∨ (k + 1 < n ∧ ∃ h : k + 1 < us.length, afterOf (vOf us) k = us[k + 1].cls) := by
        by_cases h1 : k + 1 < n
        · have h2 : k + 1 < us.length := by rw [HL.out]; exact h1
          exact .inr ⟨h1, h2, by rw [afterOf, if_pos (by rw [HV.out]; exact h1), HVat.out _ h2]⟩
        · exact .inl ⟨by omega, by rw [afterOf, if_neg (by rw [HV.out]; exact h1)]⟩
      have hfl := flags_le (vOf us) k
      have HST := Lib.hid hst
      have HSA := Lib.hid hsa
      have HAF := Lib.hid haf
      clear hst hsa haf hw hown
      generalize us[k] = u at *
      go_upto_region 6 with (fail)
      have hO1 := hO.alloc (.cells #[.int .i64 (u.frm : Int), .int .i64 (u.fin : Int), .int .u8 u.cls, .bool u.joined] 31)
      have hS1 := hS.alloc (.cells #[.int .i64 (u.frm : Int), .int .i64 (u.fin : Int), .int .u8 u.cls, .bool u.joined] 31)
      have hU1 := Blk.new wr 31 #[.int .i64 (u.frm : Int), .int .i64 (u.fin : Int), .int .u8 u.cls, .bool u.joined]
      have hb1 := hb.alloc hb.size (.cells #[.int .i64 (u.frm : Int), .int .i64 (u.fin : Int), .int .u8 u.cls, .bool u.joined] 31)
      have HN1 : Hid (∀ m (h : m < us.length), m < n → (wr.alloc (.cells #[.int .i64 (u.frm : Int), .int .i64 (u.fin : Int), .int .u8 u.cls, .bool u.joined] 31)).cell? ⟨g, m * 4 + 2, none⟩ = some (.int .u8 us[m].cls)) := fun m h hm =>
        (World.cell?_alloc_lt wr _ _ (World.block_lt_of_cell? wr _ (HN.out m h hm))).trans (HN.out m h hm)
      have hsw := hb.size
      have hgs := hS.lt
      clear hO hS hb HN p0 p1 p2 p3
      generalize wr.alloc (.cells #[.int .i64 (u.frm : Int), .int .i64 (u.fin : Int), .int .u8 u.cls, .bool u.joined] 31) = W1 at *
      have hne1 : w.heap.size ≠ wr.heap.size := by omega
      have hne2 : w.heap.size + 1 ≠ wr.heap.size := by omega
      generalize wr.heap.size = bu at *
      generalize afterOf (vOf us) k = af at *
      go_upto_if 24 with (fail)
      go_cut [7] (fun s wx => s = .int .u8 af ∧ wx = W1)
      case first =>
        rcases HAF.out with ⟨h1, rfl⟩ | ⟨h1, h2, rfl⟩
        · have h1' : decide (k + 1 < n) = false := by simp; omega
          have h1'' : (n : Int) ≤ (k : Int) + 1 := by omega
          clear h1 HAF
          go_wp2
          all_goals go_meet
          all_goals exact ⟨rfl, rfl⟩
        · obtain ⟨m, hm⟩ : ∃ m, k + 1 = m := ⟨_, rfl⟩
          have hmn : m < n := by omega
          have hmc : m < us.length := by omega
          have hcm := HN1.out m hmc hmn
          have hx : us[k + 1].cls = us[m].cls := by congr 2
          rw [← hx] at hcm
          generalize us[k + 1].cls = cm at *
          have x1 : (k : Int) + 1 = (m : Int) := by omega
          have x2 : (m : Int) < (n : Int) := by omega
          clear hx h1 HAF hm
          go_wp2
          all_goals go_meet
          all_goals exact ⟨rfl, rfl⟩
      case rest =>
        obtain ⟨rfl, hwc⟩ := hcut
        subst hwc
        go_upto_if 32 with (fail)
        go_cut [32] (fun _ wx => wx.ownsRow w.heap.size 38 1 (.slice (some ⟨w.heap.size, 0, none⟩) n n) n (ints .i64 (upto (statusAt (vOf us)) (k + 1) n 0)) ∧
          Blk wx (w.heap.size + 1) 45 (stateTo (vOf us) k).cells ∧ Blk wx bu 31 #[.int .i64 (u.frm : Int), .int .i64 (u.fin : Int), .int .u8 u.cls, .bool u.joined] ∧ Below w.heap.size w wx)
        case first =>
          have u2 := hU1.cell 2
          simp at u2
          by_cases h0 : k = 0
          · have hskip := upto_skip (statusAt (vOf us)) k n 0 hlt (by rw [statusAt, if_pos h0])
            rw [hskip] at hO1
            have z1 : (k : Int) ≤ 0 := by omega
            have z2 : decide (0 < k) = false := by simp; omega
            have HO := Lib.hid hO1
            have HK := Lib.hid h0
            clear hO1 h0 hskip
            go_wp2
            all_goals go_meet
            all_goals exact ⟨HO.out, hS1, hU1, hb1⟩
          · have hsa : statusAt (vOf us) k = aheadI (stateTo (vOf us) k) u.cls af := by
              rcases HSA.out with h | h
              · exact absurd h h0
              · exact h
            have hco := (hO1.cellAt k (by omega)).trans (show _ = some (Value.int .i64 0) from by rw [ints, List.getElem?_map, upto_at _ _ _ _ hlt]; rfl)
            have hfo := hO1.frozenAt k
            have ho := (hO1.stored k (.int .i64 (statusAt (vOf us) k))).1
            rw [ints_set, upto_set _ _ _ _ hlt, hsa] at ho
            have HC := Lib.hid (aheads_any (stateTo (vOf us) k) (w.heap.size + 1) u.cls af wc hS1 (by omega))
            have HO := Lib.hid ho
            have z1 : (0 : Int) < (k : Int) := by omega
            have z2 : 0 < k := by omega
            have hS2 := hS1.far (p := ⟨w.heap.size, k, none⟩) (by simp) (.int .i64 (aheadI (stateTo (vOf us) k) u.cls af))
            have hU2 := hU1.far (p := ⟨w.heap.size, k, none⟩) (fun e => hne1 e.symm) (.int .i64 (aheadI (stateTo (vOf us) k) u.cls af))
            have hb2 := hb1.setCell (p := ⟨w.heap.size, k, none⟩) (Nat.le_refl _) (.int .i64 (aheadI (stateTo (vOf us) k) u.cls af))
            clear ho hsa h0 hO1
            generalize aheadI (stateTo (vOf us) k) u.cls af = st at *
            go_wp2_with (go_at_call 16; (with_reducible refine HC.out.mono ?_); rintro e w' ⟨rfl, rfl⟩)
            all_goals go_meet
            all_goals exact ⟨HO.out, hS2, hU2, hb2⟩
        case rest =>
          obtain ⟨hO2, hS2, hU2, hb2⟩ := hcut
          have u0 := hU2.cell 0
          have u1 := hU2.cell 1
          have u2 := hU2.cell 2
          have u3 := hU2.cell 3
          simp at u0 u1 u2 u3
          have HC := Lib.hid (step_any (stateTo (vOf us) k) (w.heap.size + 1) (u.frm : Int) (u.fin : Int) u.cls u.joined wc hS2 (by omega))
          rw [← HST.out] at HC
          have HOO := Lib.hid hO2
          have HBB := Lib.hid hb2
          clear hO2 hS2 hU2 hb2
          go_wp2_with (go_at_call 17; (with_reducible refine HC.out.mono ?_); rintro e w9 ⟨rfl, hS9, hg9⟩)
          go_roundw
          case rel =>
            refine ⟨k + 1, by omega, by go_num, ?_, hS9, ?_⟩
            · exact own_block HOO.out fun g hg => hg9.block g (HOO.out.lt g hg).2 (fun h => by simp only [Value.ownBlock, Option.some.injEq] at hg; injection h with h; omega)
            · exact HBB.out.grown hg9 HBB.out.size (fun g hg => by injection hg with hg; omega)
          case measure => simp [intOf]; omega
    · obtain rfl : n = k := by omega
      go_wp2
      go_ret
      refine ⟨_, rfl, ?_, hb⟩
      have : upto (statusAt (vOf us)) n n 0 = between (vOf us) := by rw [upto, between, HV.out]; simp
      rw [this] at hO
      exact hO
end Go.Proofs.Ytbobhcffbgnfkaa.lr
