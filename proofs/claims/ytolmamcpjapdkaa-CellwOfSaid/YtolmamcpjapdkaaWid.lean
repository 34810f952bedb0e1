/-
  Laws of make for lists of any length that memory holds.
-/
import Derived.Test.YtolmamcpjapdkaaBase
namespace Go.Proofs.Ytolmamcpjapdkaa
open Go.RowKit

/-- make([]T, n), T one cell: an equation for every world, as long as the new array has no more than 2^48 bytes. -/
theorem make_wide {P : Program} (t e : TypeId) (i : TypeInfo) (z : Value) (bytes : Nat) (ht : P.underlying t = some (.slice e)) (hi : P.info? e = some i) (hz : i.zero = some z)
    (hsize : i.size = 1) (hby : i.bytes = bytes) (n : Nat) (hn : n ≤ 281474976710656) (hb : bytes * n ≤ 281474976710656) (w : World) :
    (Instr.makeSlice t (.int .i64 (n : Int)) (.int .i64 (n : Int))).run P w = .ok (.slice (some ⟨w.heap.size, 0, none⟩) n n) (w.alloc (.cells (madeCells z.cells n) e)) := by
  have hbb : i.bytes * n ≤ 281474976710656 := by
    rw [hby]
    exact hb
  have hbb' : (i.bytes : Int) * (n : Int) ≤ 281474976710656 := by
    have h : ((i.bytes * n : Nat) : Int) ≤ 281474976710656 := by omega
    rwa [Int.natCast_mul] at h
  have h := run_make (P := P) w t e i z ht hi hz .i64 .i64 (n : Int) (n : Int) (by omega) (Int.le_refl _) hbb' (by omega)
  simpa [hsize] using h

theorem made_own_wide (w : World) (e : TypeId) (K : IntKind) (n : Nat) (hn : n ≤ 281474976710656) {base : Nat} (hb : base ≤ w.heap.size) :
    (w.alloc (.cells (madeCells #[Value.int K 0] n) e)).ownsRow base e 1 (.slice (some ⟨w.heap.size, 0, none⟩) n n) n (ints K (List.replicate n 0)) := by
  have h := World.ownsRow_lit (base := base) (e := e) (size := 1) w (madeCells #[Value.int K 0] n) n hb (by unfold maxLen; omega) (by simp [madeCells])
  rw [toList_madeCells_one] at h
  simpa [ints] using h
end Go.Proofs.Ytolmamcpjapdkaa
