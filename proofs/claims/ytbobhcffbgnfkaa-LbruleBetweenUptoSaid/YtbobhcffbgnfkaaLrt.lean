/-
  Layer 20: the contract of step over the program.
-/
import Derived.Test.YtbobhcffbgnfkaaLrs
import Derived.IntWalk
import Derived.Deep.CutBlock
namespace Go.Proofs.Ytbobhcffbgnfkaa.lr
open Go.RowKit

/-- only block g has turned, and what is new -/
theorem only_alloc {a w : World} {row : Option Nat} (h : a.grownBy w row) (o : Obj) : a.grownBy (w.alloc o) row :=
  ⟨h.os, h.tape, h.output, Nat.le_trans h.size (by simp), fun i hi hne => (Below.heap_alloc w o i (Nat.lt_of_lt_of_le hi h.size)).trans (h.block i hi hne)⟩
theorem only_setCell {a w : World} {g : Nat} (h : a.grownBy w (some g)) {p : Addr} (hp : p.block = g ∨ a.heap.size ≤ p.block) (u : Value) : a.grownBy (w.setCell p u) (some g) :=
  ⟨h.os, h.tape, h.output, by simpa [World.setCell] using h.size, fun i hi hne => (Below.heap_setCell w p u i (by
    rintro rfl
    rcases hp with hp | hp
    · exact hne (by rw [hp])
    · omega)).trans (h.block i hi hne)⟩
theorem only_drew {a w : World} {row : Option Nat} (h : a.grownBy w row) : a.grownBy w.drew row := ⟨h.os, h.tape, h.output, h.size, h.block⟩

theorem num_cases (n c : Int) : (c = 27 ∧ numStep n c = 1) ∨ (n = 1 ∧ c = 26 ∧ numStep n c = 1) ∨ (n = 1 ∧ c = 25 ∧ numStep n c = 1) ∨ (n = 1 ∧ c = 19 ∧ numStep n c = 2) ∨ (n = 1 ∧ c = 20 ∧ numStep n c = 2) ∨
    ((c == 27) = false ∧ (n == 1) = false ∧ numStep n c = 0) ∨ ((c == 27) = false ∧ n = 1 ∧ (c == 26) = false ∧ (c == 25) = false ∧ (c == 19) = false ∧ (c == 20) = false ∧ numStep n c = 0) := by
  unfold numStep
  simp only [beq_eq_false_iff_ne, ne_eq]
  split
  · omega
  · split
    · omega
    · omega

set_option maxRecDepth 100000 in
set_option maxHeartbeats 16000000 in
theorem step_any (s : S) (g : Nat) (x y : Int) (c : Int) (jo : Bool) (w : World) (hs : Blk w g 45 s.cells) (hf : s.flags ≤ 4194304) :
    Calls Try.prog 17 #[.pointer (some ⟨g, 0, none⟩), .agg #[.int .i64 x, .int .i64 y, .int .u8 c, .bool jo]] w fun e w' => e = .returned (.tuple #[]) ∧ Blk w' g 45 (s.step c jo).cells ∧ w.grownBy w' (some g) := by
  have hgl := hs.lt
  have hst : (s.step c jo).cells = #[.int .u8 c, .bool jo, .int .u8 (if c = 9 then s.base else c), .bool (s.last == 2), .int .i64 ((if c = 33 then s.flags + 1 else 0 : Nat) : Int), .int .i64 (numStep s.number c)] := rfl
  have HST := Lib.hid hst
  clear hst
  obtain ⟨a, j, b, h, f, n⟩ := s
  simp only [S.cells] at hs
  have hfl : f ≤ 4194304 := hf
  have hB := hs.alloc (.cells #[.int .i64 x, .int .i64 y, .int .u8 c, .bool jo] 31)
  have hU := Blk.new w 31 #[.int .i64 x, .int .i64 y, .int .u8 c, .bool jo]
  have hG := only_alloc (World.grownBy.refl w (some g)) (.cells #[.int .i64 x, .int .i64 y, .int .u8 c, .bool jo] 31)
  have HF : Hid (((if c = 33 then f + 1 else 0 : Nat) : Int) = if c = 33 then (f : Int) + 1 else 0) := by
    show _ = _
    split <;> simp
  clear hs hf
  go_enter Try.func17, Try.ntmps17
  go_upto_region 1 with (fail)
  generalize hW0 : w.alloc (.cells #[.int .i64 x, .int .i64 y, .int .u8 c, .bool jo] 31) = W at *
  have hul : w.heap.size < W.heap.size := by rw [← hW0]; simp
  have hne : g ≠ w.heap.size := by omega
  clear hW0
  generalize w.heap.size = u at *
  have u2 := hU.cell 2
  have c0 := hB.cell 0
  have c3 := hB.cell 3
  have f3 := hB.frozen 3
  simp only [List.getElem?_toArray, List.getElem?_cons_zero, List.getElem?_cons_succ] at u2 c0 c3
  go_upto_block 0 with (fail)
  have hB1 := hB.set_ 3 (.bool (a == 2))
  have hU1 := hU.far (p := ⟨g, 3, none⟩) (fun e => hne e.symm) (.bool (a == 2))
  have hG1 := only_setCell hG (p := ⟨g, 3, none⟩) (.inl rfl) (.bool (a == 2))
  clear u2 c0 c3 f3 hB hU hG
  generalize W.setCell ⟨g, 3, none⟩ (.bool (a == 2)) = W1 at *
  have c5 := hB1.cell 5
  have f5 := hB1.frozen 5
  simp at c5
  go_cut [18] (fun _ wx => wx = W1.setCell ⟨g, 5, none⟩ (.int .i64 (numStep n c)))
  case first =>
    rcases num_cases n c with ⟨rfl, hv⟩ | ⟨rfl, rfl, hv⟩ | ⟨rfl, rfl, hv⟩ | ⟨rfl, rfl, hv⟩ | ⟨rfl, rfl, hv⟩ | ⟨h1, h2, hv⟩ | ⟨h1, rfl, h2, h3, h4, h5, hv⟩
    all_goals
      have HV := Lib.hid hv
      clear hv
      go_wp2
      all_goals go_meet
      all_goals exact (by rw [HV.out])
  case rest =>
    subst hcut
    have hB2 := hB1.set_ 5 (.int .i64 (numStep n c))
    have hU2 := hU1.far (p := ⟨g, 5, none⟩) (fun e => hne e.symm) (.int .i64 (numStep n c))
    have hG2 := only_setCell hG1 (p := ⟨g, 5, none⟩) (.inl rfl) (.int .i64 (numStep n c))
    clear c5 f5 hB1 hU1 hG1
    generalize W1.setCell ⟨g, 5, none⟩ (.int .i64 (numStep n c)) = W2 at *
    generalize numStep n c = nv at *
    have c4 := hB2.cell 4
    have f4 := hB2.frozen 4
    simp at c4
    go_upto_if 55 with (fail)
    go_cut [55] (fun _ wx => wx = W2.setCell ⟨g, 4, none⟩ (.int .i64 (if c = 33 then (f : Int) + 1 else 0)))
    case first =>
      by_cases h33 : c = 33
      · have HV : Hid ((if c = 33 then (f : Int) + 1 else 0) = (f : Int) + 1) := if_pos h33
        have hq : (c == 33) = true := by simpa using h33
        clear h33
        go_wp2
        all_goals go_meet
        all_goals exact (by rw [HV.out])
      · have HV : Hid ((if c = 33 then (f : Int) + 1 else 0) = 0) := if_neg h33
        have hq : (c == 33) = false := by simpa using h33
        clear h33
        go_wp2
        all_goals go_meet
        all_goals exact (by rw [HV.out])
    case rest =>
      subst hcut
      rw [← HF.out] at *
      generalize (if c = 33 then f + 1 else 0 : Nat) = fv at *
      have hB3 := hB2.set_ 4 (.int .i64 (fv : Int))
      have hU3 := hU2.far (p := ⟨g, 4, none⟩) (fun e => hne e.symm) (.int .i64 (fv : Int))
      have hG3 := only_setCell hG2 (p := ⟨g, 4, none⟩) (.inl rfl) (.int .i64 (fv : Int))
      clear c4 f4 hB2 hU2 hG2
      generalize W2.setCell ⟨g, 4, none⟩ (.int .i64 (fv : Int)) = W3 at *
      simp only at HST
      by_cases h9 : c = 9
      · have HE : Hid ((if c = 9 then b else c) = b) := if_pos h9
        have hq : (c != 9) = false := by simpa using h9
        clear h9
        go_upto_region 14 with (fail)
        have c0 := hB3.cell 0
        have c1 := hB3.cell 1
        have f0 := hB3.frozen 0
        have f1 := hB3.frozen 1
        have u3 := hU3.cell 3
        simp at c0 c1 u3
        go_region
        all_goals go_end0
        all_goals refine ⟨rfl, ?_, ?_⟩
        all_goals first
          | (rw [HST.out, HE.out]; exact ((hB3.set_ 0 (.int .u8 c)).set_ 1 (.bool jo)).drew)
          | (rw [HST.out, HE.out]; exact ((hB3.set_ 1 (.bool jo)).set_ 0 (.int .u8 c)).drew)
          | exact only_drew (only_setCell (only_setCell hG3 (.inl rfl) _) (.inl rfl) _)
      · have HE : Hid ((if c = 9 then b else c) = c) := if_neg h9
        have hq : (c != 9) = true := by simpa using h9
        clear h9
        have c2 := hB3.cell 2
        have f2 := hB3.frozen 2
        simp at c2
        go_upto_region 14 with (fail)
        have hB4 := hB3.set_ 2 (.int .u8 c)
        have hU4 := hU3.far (p := ⟨g, 2, none⟩) (fun e => hne e.symm) (.int .u8 c)
        have hG4 := only_setCell hG3 (p := ⟨g, 2, none⟩) (.inl rfl) (.int .u8 c)
        clear c2 f2 hB3 hU3 hG3
        generalize W3.setCell ⟨g, 2, none⟩ (.int .u8 c) = W4 at *
        have c0 := hB4.cell 0
        have c1 := hB4.cell 1
        have f0 := hB4.frozen 0
        have f1 := hB4.frozen 1
        have u3 := hU4.cell 3
        simp at c0 c1 u3
        go_region
        all_goals go_end0
        all_goals refine ⟨rfl, ?_, ?_⟩
        all_goals first
          | (rw [HST.out, HE.out]; exact ((hB4.set_ 0 (.int .u8 c)).set_ 1 (.bool jo)).drew)
          | (rw [HST.out, HE.out]; exact ((hB4.set_ 1 (.bool jo)).set_ 0 (.int .u8 c)).drew)
          | exact only_drew (only_setCell (only_setCell hG4 (.inl rfl) _) (.inl rfl) _)
end Go.Proofs.Ytbobhcffbgnfkaa.lr
