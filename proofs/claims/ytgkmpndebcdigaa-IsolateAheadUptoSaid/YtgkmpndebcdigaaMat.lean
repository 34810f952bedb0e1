/-
  Layer 9: the contract of isolate.Match over the program.
-/
import Derived.Test.YtgkmpndebcdigaaIso
namespace Go.Proofs.Ytgkmpndebcdigaa
open Go.RowKit

set_option maxHeartbeats 1000000 in
theorem match_any (A : Option Addr) (n c : Nat) (cs : List Int) (w : World) (hr : Rd w 1 A n (ints .u8 cs)) (hn : n ≤ 1048576) :
    Calls Try.prog 16 #[.slice A n c] w fun e w' => ∃ v, e = .returned v ∧ w'.ownsRow w.heap.size 3 1 v n (ints .i64 (matched cs)) ∧ Below w.heap.size w w' := by
  obtain ⟨i0, hi, hz0, hz1, hz2⟩ := info_parts info3
  have hl : cs.length = n := by simpa using hr.1
  have hmk := fun W => make_one (P := Try.prog) 26 3 i0 (.int .i64 0) 8 Try.underlying26 hi hz0 hz1 hz2 n (by omega) (by omega) W
  have HL := Lib.hid hl
  clear hl
  go_enter Try.func16, Try.ntmps16
  go_wp2
  clear hmk
  go_loopw [4, 13] (fun v i wr => ∃ k : Nat, k ≤ n ∧ i = .int .i64 k ∧ wr.ownsRow w.heap.size 3 1 (.slice (some ⟨w.heap.size, 0, none⟩) n n) n (ints .i64 (matchTo cs k).1) ∧
      wr.ownsRow (w.heap.size + 1) 3 1 v (matchTo cs k).2.length (nats (matchTo cs k).2) ∧ Below w.heap.size w wr ∧ w.heap.size + 1 ≤ wr.heap.size)
    (fun _ i _ => n - (intOf i).toNat)
  case atStart => exact ⟨0, Nat.zero_le _, rfl, by rw [matchTo, HL.out]; exact made_own w 3 .i64 n (by omega) (Nat.le_refl _), World.ownsRow_nil _ _ _ _, (Below.refl _ _).alloc (Nat.le_refl _) _, by simp⟩
  case round =>
    obtain ⟨k, hk, rfl, hout, hown, hb, hsz⟩ := hrel
    by_cases hlt : k < n
    · have hkz : k < cs.length := by rw [HL.out]; exact hlt
      obtain ⟨ad, rfl, hc⟩ := (hr.same hb).cell_ (ints_at (K := .u8) hkz)
      obtain ⟨hl1, hl2, hl3⟩ := matchTo_inv cs k
      have HS : Hid (matchTo cs (k + 1) = matchStep k cs[k] (matchTo cs k)) := by
        show _ = _
        rw [matchTo, List.getD_eq_getElem?_getD, List.getElem?_eq_getElem hkz]; rfl
      have hlk : k < (ints .i64 (matchTo cs k).1).length := by simp [ints]; omega
      have hco : ∃ u, wr.cell? ⟨w.heap.size, k, none⟩ = some u := ⟨_, (hout.cellAt k (by omega)).trans (List.getElem?_eq_getElem hlk)⟩
      have hfo := hout.frozenAt k
      obtain ⟨u0, hco⟩ := hco
      clear hr hlk
      generalize cs[k] = x at *
      generalize matchTo cs k = st at *
      obtain ⟨out, opn⟩ := st
      simp only at hout hown hl1 hl2 hl3
      obtain ⟨hout', hg'⟩ := hout.stored k (.int .i64 (-1))
      have hne : ∀ g, g < w.heap.size + 1 → some g ≠ Value.ownBlock (.slice (some ⟨w.heap.size, 0, none⟩) n n) ∨ True := fun _ _ => Or.inr trivial
      clear hne
      have hb' : Below w.heap.size w (wr.setCell ⟨w.heap.size, k, none⟩ (.int .i64 (-1))) := hb.setCell (Nat.le_refl _) _
      by_cases hix : iso x = true
      · go_wp2_with (first
          | (go_at_call 17; refine (isolate_any _ _).mono ?_; rintro e w' ⟨rfl, rfl⟩)
          | (at_builtin; go_loud (refine wpList_append_one rfl (.tmp 24) (.tmp 26) 26 rfl w.heap.size w (w.heap.size + 1) 3 i0 (.int .i64 0) 8 Try.underlying26 hi hz0 hz1 hz2 rfl _ _ _ rfl (hown.kept hg' (own_ne hown (Nat.lt_succ_self _))) _ _ rfl _ rfl (by simp) hb' hb'.size (by omega) (by simpa [World.setCell] using hsz) (by omega) (by omega) ?_); intro v' w1 hown1 hb1 hrest _))
        go_roundw
        case rel =>
          have e : matchTo cs (k + 1) = (out.set k (-1), opn ++ [k]) := by rw [HS.out]; simp [matchStep, hix]
          rw [ints_set] at hout'
          have ho1 := own_block hout' fun g hg => hrest.block g (hout'.lt g hg).2 fun h => by have := (hown.lt g h.symm).1; simp [Value.ownBlock] at hg; omega
          refine ⟨k + 1, by omega, by go_num, by rw [e]; exact ho1, by rw [e]; simpa [nats] using hown1, hb1, own_size ho1⟩
        case measure => simp [intOf]; omega
      · by_cases hpop : x = 22 ∧ 0 < opn.length
        · obtain ⟨rfl, hpos⟩ := hpop
          obtain ⟨s, p, rfl⟩ : ∃ s p, opn = s ++ [p] := ⟨_, _, (List.dropLast_concat_getLast (List.ne_nil_of_length_pos hpos)).symm⟩
          have hpk : p < k := hl3 p (by simp)
          obtain ⟨A4, c4, rfl, hc4, _⟩ := own_slice hown
          simp only [List.length_append, List.length_singleton] at hc4
          obtain ⟨g, cap, hv, hg1, hg2⟩ := hown.form (by omega)
          injection hv with hA hnn hcc
          subst hA; subst hcc
          have e : matchTo cs (k + 1) = (((out.set k (-1)).set k p).set p k, s) := by rw [HS.out]; simp [matchStep, iso]
          have HE := Lib.hid e
          rw [ints_set] at hout'
          have hown' := hown.kept hg' (own_ne hown (Nat.lt_succ_self _))
          have hcl := hown'.cellAt s.length (by simp)
          rw [show (nats (s ++ [p]))[s.length]? = some (.int .i64 (p : Int)) from by simp [nats]] at hcl
          have hck : ∃ u, (wr.setCell ⟨w.heap.size, k, none⟩ (.int .i64 (-1))).cell? ⟨w.heap.size, k, none⟩ = some u := ⟨_, (hout'.cellAt k (by omega)).trans (ints_at (by simp; omega))⟩
          have hcp : ∃ u, (wr.setCell ⟨w.heap.size, k, none⟩ (.int .i64 (-1))).cell? ⟨w.heap.size, p, none⟩ = some u := ⟨_, (hout'.cellAt p (by omega)).trans (ints_at (by simp; omega))⟩
          have hfk := hout'.frozenAt k
          have hfp := hout'.frozenAt p
          obtain ⟨uk, hck⟩ := hck
          obtain ⟨up, hcp⟩ := hcp
          have hsl : s.length + 1 ≤ k := by simpa using hl2
          clear HS e
          go_wp2_with (first
            | (go_at_call 17; refine (isolate_any _ _).mono ?_; rintro e w' ⟨rfl, rfl⟩))
          clear hco hc hfo hown hout hg' hb
          generalize (wr.setCell ⟨w.heap.size, k, none⟩ (.int .i64 (-1))) = W2 at *
          have hne : (⟨w.heap.size, p, none⟩ : Addr) ≠ ⟨w.heap.size, k, none⟩ := by simp only [ne_eq, Addr.mk.injEq, true_and, and_true]; omega
          go_region
          clear hcl hck hcp hfk hfp hne
          go_wp2
          go_roundw
          case rel =>
            obtain ⟨ho1, hg1'⟩ := hout'.stored k (.int .i64 (p : Int))
            obtain ⟨ho2, hg2'⟩ := ho1.stored p (.int .i64 (k : Int))
            rw [ints_set, ints_set] at ho2
            have hw1 := (hown'.kept hg1' (own_ne hown' (Nat.lt_succ_self _)))
            have hw2 := hw1.kept hg2' (own_ne hw1 (Nat.lt_succ_self _))
            have hw3 := ownsRow_pop (size := 1) (n := s.length) (xs := nats s) (last := [.int .i64 (p : Int)]) (by simp [nats]) (by simpa [nats] using hw2)
            refine ⟨k + 1, by omega, by go_num, by rw [HE.out]; exact ho2, by rw [HE.out]; exact hw3, ((hb'.setCell (Nat.le_refl _) _).setCell (Nat.le_refl _) _).drew, ?_⟩
            have := own_size ho2
            exact this
          case measure => simp [intOf]; omega
        · have e : matchTo cs (k + 1) = (out.set k (-1), opn) := by rw [HS.out]; simp [matchStep, hix, hpop]
          rw [ints_set] at hout'
          have hown' := hown.kept hg' (own_ne hown (Nat.lt_succ_self _))
          obtain ⟨A4, c4, rfl, hc4, _⟩ := own_slice hown
          have hop : x = 22 → opn.length = 0 := fun h => by
            rcases Nat.eq_zero_or_pos opn.length with h0 | h0
            · exact h0
            · exact absurd ⟨h, h0⟩ hpop
          by_cases hx : x = 22
          · obtain rfl := List.eq_nil_of_length_eq_zero (hop hx)
            subst hx
            clear hpop hop
            go_wp2_with (first
              | (go_at_call 17; refine (isolate_any _ _).mono ?_; rintro e w' ⟨rfl, rfl⟩))
            go_roundw
            case rel => exact ⟨k + 1, by omega, by go_num, by rw [e]; exact hout', by rw [e]; exact hown', hb', own_size hout'⟩
            case measure => simp [intOf]; omega
          · clear hpop hop
            go_wp2_with (first
              | (go_at_call 17; refine (isolate_any _ _).mono ?_; rintro e w' ⟨rfl, rfl⟩))
            go_roundw
            case rel => exact ⟨k + 1, by omega, by go_num, by rw [e]; exact hout', by rw [e]; exact hown', hb', own_size hout'⟩
            case measure => simp [intOf]; omega
    · obtain rfl : k = n := by omega
      clear hr
      go_wp2
      go_ret
      refine ⟨_, rfl, ?_, hb⟩
      rw [matched, HL.out]
      exact hout
end Go.Proofs.Ytgkmpndebcdigaa
