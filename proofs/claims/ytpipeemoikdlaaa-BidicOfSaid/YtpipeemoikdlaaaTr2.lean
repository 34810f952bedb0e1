/-
  The trie: the contract of filled over the program.
-/
import Derived.Test.YtpipeemoikdlaaaTr1
namespace Go.Proofs.Ytpipeemoikdlaaa.tr
open Go.RowKit

/-- a new page -/
def zp : Array Value := pcells (List.replicate 128 0)

set_option maxRecDepth 100000 in
set_option maxHeartbeats 8000000 in
theorem filled_any (g q n c : Nat) (R : List G) (a o : Int) (w : World) (h : RG w g q n R) (last : Int) (hR : Rising last R) (ha : 0 ≤ a ∧ a ≤ 1114111) (hn : n ≤ 1048576) (hg : g < w.heap.size) :
    Calls Try.prog 24 #[.slice (some ⟨g, q, none⟩) n c, .int .i32 a, .int .u8 o] w fun e w' =>
      e = .returned (.slice (some ⟨w.heap.size, 0, none⟩) 128 128) ∧ Blk w' w.heap.size 5 (pcells (pageAt R o a)) ∧ Below w.heap.size w w' := by
  obtain ⟨hl, hc⟩ := h
  have hmk : ∀ w : World, (Instr.makeSlice 65 (.int .i64 128) (.int .i64 128)).run Try.prog w = .ok (.slice (some ⟨w.heap.size, 0, none⟩) 128 128) (w.alloc (.cells zp 5)) := fun _ => by kernel_rfl
  have HC : Hid (∀ w' : World, Below w.heap.size w w' → ∀ j (h : j < R.length), w'.cell? ⟨g, q + j * 3, none⟩ = some (.int .i32 R[j].lo) ∧ w'.cell? ⟨g, q + j * 3 + 1, none⟩ = some (.int .i32 R[j].hi) ∧ w'.cell? ⟨g, q + j * 3 + 2, none⟩ = some (.int .u8 R[j].v)) := by
    intro w' hb j h
    obtain ⟨h1, h2, h3⟩ := hc j h
    exact ⟨(hb.cell (p := ⟨g, _, none⟩) hg).trans h1, (hb.cell (p := ⟨g, _, none⟩) hg).trans h2, (hb.cell (p := ⟨g, _, none⟩) hg).trans h3⟩
  have HR := Lib.hid hR
  clear hc hR
  generalize hB : w.heap.size = B at *
  go_enter Try.func24, Try.ntmps24
  go_upto_region 2 with (fail)
  clear hmk
  have hP0 : Blk (w.alloc (.cells zp 5)) B 5 (pcells (upto (fun i : Nat => find R (a + (i : Int)) o) 0 128 0)) := by
    subst hB
    have h := Blk.new w 5 zp
    rw [zp] at h
    exact h
  have hB0 : Below B w (w.alloc (.cells zp 5)) := by subst hB; exact (Below.refl _ _).alloc (Nat.le_refl _) _
  generalize w.alloc (.cells zp 5) = W0 at *

  go_wp2
  go_loopw [8, 14] (fun ks i wr => ∃ i0 k : Nat, i0 ≤ 128 ∧ k ≤ n ∧ i = .int .i64 i0 ∧ ks = .int .i64 k ∧ (∀ j (h : j < R.length), j < k → R[j].hi < a + (i0 : Int)) ∧
      Blk wr B 5 (pcells (upto (fun i : Nat => find R (a + (i : Int)) o) i0 128 0)) ∧ Below B w wr)
    (fun _ i _ => 128 - (intOf i).toNat)
  case atStart => exact ⟨0, 0, Nat.zero_le _, Nat.zero_le _, rfl, rfl, fun j _ h => absurd h (by omega), hP0, hB0⟩
  case round =>
    clear hP0 hB0
    obtain ⟨i0, k, hi, hk, rfl, rfl, hs, hP, hb⟩ := hrel
    by_cases hlt : i0 < 128
    · have x1 : IntKind.i32.wrap (i0 : Int) = (i0 : Int) := by simp [IntKind.wrap, IntKind.signed, IntKind.bits]; omega
      have x2 : IntKind.i32.wrap (a + (i0 : Int)) = a + (i0 : Int) := by simp [IntKind.wrap, IntKind.signed, IntKind.bits]; omega
      have y1 : (i0 : Int) < 128 := by omega
      obtain ⟨r, hr⟩ : ∃ r, a + (i0 : Int) = r := ⟨_, rfl⟩
      have HS := Lib.hid (show ∀ j (h : j < R.length), j < k → R[j].hi < r from by rw [← hr]; exact hs)
      have HRR := Lib.hid hr
      have HP := Lib.hid hP
      clear hs hr hP
      go_upto_region 7 with (fail)
      rw [HRR.out]
      clear x1 x2
      go_loopw [8] (fun ks wx => ∃ k : Nat, k ≤ n ∧ ks = .int .i64 k ∧ (∀ j (h : j < R.length), j < k → R[j].hi < r) ∧ wx = wr) (fun ks _ => n - (intOf ks).toNat)
      case atStart => exact ⟨k, hk, rfl, HS.out, rfl⟩
      case round =>
        clear HS hk
        obtain ⟨k, hk, rfl, hs, hwx⟩ := hrel
        subst hwx
        have HS := Lib.hid hs
        clear hs
        have HFin : Hid (∀ v : Int, v = find R r o → ∀ wz : World, Blk wz B 5 ((pcells (upto (fun i : Nat => find R (a + (i : Int)) o) i0 128 0)).setIfInBounds i0 (.int .u8 v)) →
            Blk wz B 5 (pcells (upto (fun i : Nat => find R (a + (i : Int)) o) (i0 + 1) 128 0))) := by
          intro v hv wz hz
          have : (pcells (upto (fun i : Nat => find R (a + (i : Int)) o) i0 128 0)).setIfInBounds i0 (.int .u8 v) = pcells (upto (fun i : Nat => find R (a + (i : Int)) o) (i0 + 1) 128 0) := by
            rw [hv, ← HRR.out]
            apply Array.toList_inj.1
            simp only [pcells, Array.toList_setIfInBounds]
            rw [ints_set, upto_set (fun i : Nat => find R (a + (i : Int)) o) i0 128 0 hlt]
          rw [this] at hz
          exact hz
        have hcell : wr.cell? ⟨B, i0, none⟩ = some (.int .u8 0) := (HP.out.cell i0).trans ((pcells_get _ _).trans (by rw [upto_at _ _ _ _ hlt]; rfl))
        have hfro := HP.out.frozen i0
        have HST : Hid (∀ v : Int, Blk (wr.setCell ⟨B, i0, none⟩ (.int .u8 v)) B 5 ((pcells (upto (fun i : Nat => find R (a + (i : Int)) o) i0 128 0)).setIfInBounds i0 (.int .u8 v))) := fun v => HP.out.set_ i0 _
        have HST2 : Hid (∀ v v2 : Int, Blk ((wr.setCell ⟨B, i0, none⟩ (.int .u8 v)).setCell ⟨B, i0, none⟩ (.int .u8 v2)) B 5 ((pcells (upto (fun i : Nat => find R (a + (i : Int)) o) i0 128 0)).setIfInBounds i0 (.int .u8 v2))) := fun v v2 => by
          have := (HP.out.set_ i0 (.int .u8 v)).set_ i0 (.int .u8 v2)
          rwa [Array.setIfInBounds_setIfInBounds] at this
        have HBB : Hid (∀ v : Int, Below B w (wr.setCell ⟨B, i0, none⟩ (.int .u8 v))) := fun v => hb.setCell (Nat.le_refl _) _
        by_cases hkn : k < n
        · obtain ⟨c0, c1, c2⟩ := HC.out wr hb k (by omega)
          have HRa := Lib.hid (HR.out.at (k := k) (by omega))
          have HHit : Hid (R[k]'(by omega) = R[k]'(by omega) ∧ (r ≤ (R[k]'(by omega)).hi → (R[k]'(by omega)).lo ≤ r → find R r o = (R[k]'(by omega)).v) ∧ (r ≤ (R[k]'(by omega)).hi → r < (R[k]'(by omega)).lo → find R r o = o)) :=
            ⟨rfl, fun h1 h2 => find_hit HR.out (by omega) HS.out h2 h1, fun h1 h2 => find_miss HR.out (by omega) HS.out (fun _ => h2)⟩
          have HNext : Hid ((R[k]'(by omega)).hi < r → ∀ j (h : j < R.length), j < k + 1 → R[j].hi < r) := fun h1 j hj hj2 => by
            by_cases hjk : j < k
            · exact HS.out j hj hjk
            · obtain rfl : j = k := by omega
              exact h1
          generalize R[k]'(by omega) = x at *
          obtain ⟨lo, hi', v⟩ := x
          simp only at *
          have z1 : (k : Int) < (n : Int) := by omega
          rcases (show hi' < r ∨ (r ≤ hi' ∧ lo ≤ r) ∨ (r ≤ hi' ∧ r < lo) from by omega) with h1 | ⟨h1, h2⟩ | ⟨h1, h2⟩
          · have HN := Lib.hid (HNext.out h1)
            clear HNext HHit c0 c2
            go_wp2
            go_roundw
            case rel => exact ⟨k + 1, by omega, by go_num, HN.out, by first | rfl | trivial⟩
            case measure => simp [intOf]; omega
          · have HF := Lib.hid (HHit.out.2.1 h1 h2)
            clear HNext HHit
            go_wp2
            go_roundw
            case rel => exact ⟨i0 + 1, k, by omega, by omega, by go_num, rfl, fun j hj hjk => by have := HS.out j hj hjk; have := HRR.out; omega, HFin.out v HF.out.symm _ (HST2.out _ _), (HBB.out o).setCell (Nat.le_refl _) _⟩
            case measure => simp [intOf]; omega
          · have HF := Lib.hid (HHit.out.2.2 h1 h2)
            clear HNext HHit
            go_wp2
            go_roundw
            case rel => exact ⟨i0 + 1, k, by omega, by omega, by go_num, rfl, fun j hj hjk => by have := HS.out j hj hjk; have := HRR.out; omega, HFin.out o HF.out.symm _ (HST.out _), HBB.out o⟩
            case measure => simp [intOf]; omega
        · obtain rfl : k = n := by omega
          have HF := Lib.hid (find_miss (c := r) (o := o) HR.out (by omega) HS.out (fun h => absurd h (by omega)))
          go_wp2
          go_roundw
          case rel => exact ⟨i0 + 1, k, by omega, by omega, by go_num, rfl, fun j hj hjk => by have := HS.out j hj hjk; have := HRR.out; omega, HFin.out o HF.out.symm _ (HST.out _), HBB.out o⟩
          case measure => simp [intOf]; omega
    · obtain rfl : i0 = 128 := by omega
      go_wp2
      go_ret
      refine ⟨rfl, ?_, hb⟩
      have : upto (fun i : Nat => find R (a + (i : Int)) o) 128 128 0 = pageAt R o a := by simp [upto, pageAt]
      rw [this] at hP
      exact hP
end Go.Proofs.Ytpipeemoikdlaaa.tr
