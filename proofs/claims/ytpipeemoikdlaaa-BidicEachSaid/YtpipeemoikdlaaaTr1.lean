/-
  The trie: blocks that are known whole; the contracts of slices.Equal, whole and filled over the program.
-/
import Derived.Test.YtpipeemoikdlaaaRows
import Derived.Test.YtpipeemoikdlaaaBase
import Derived.Test.YtpipeemoikdlaaaTrp
import Derived.Deep.DeepCutAuto
import Derived.Outline
namespace Go.Proofs.Ytpipeemoikdlaaa.tr
open Go.RowKit

/-- a block that is known whole -/
def Blk (w : World) (g : Nat) (t : TypeId) (cs : Array Value) : Prop := w.heap[g]? = some (.cells cs t (0, 0))
section
variable {w w' : World} {g : Nat} {t : TypeId} {cs : Array Value}
theorem Blk.lt (h : Blk w g t cs) : g < w.heap.size := by
  unfold Blk at h
  exact (Array.getElem?_eq_some_iff.1 h).1
theorem Blk.cell (h : Blk w g t cs) (i : Nat) : w.cell? ⟨g, i, none⟩ = cs[i]? := cell_of_row w g i cs t (0, 0) h
theorem Blk.frozen (h : Blk w g t cs) (i : Nat) : w.frozen? ⟨g, i, none⟩ = false := by
  unfold Blk at h
  simp [World.frozen?, h]
theorem Blk.new (w : World) (t : TypeId) (cs : Array Value) : Blk (w.alloc (.cells cs t)) w.heap.size t cs := heap_alloc_new w _
theorem Blk.alloc (h : Blk w g t cs) (o : Obj) : Blk (w.alloc o) g t cs := (Below.heap_alloc w o g h.lt).trans h
theorem Blk.set_ (h : Blk w g t cs) (i : Nat) (u : Value) : Blk (w.setCell ⟨g, i, none⟩ u) g t (cs.setIfInBounds i u) := by
  rw [setCell_eq_setRow w g i cs t (0, 0) u h]
  exact setRow_heap w g cs _ t _ h
theorem Blk.far (h : Blk w g t cs) {p : Addr} (hp : g ≠ p.block) (u : Value) : Blk (w.setCell p u) g t cs := (Below.heap_setCell w p u g hp).trans h
theorem Blk.below {B : Nat} (h : Blk w g t cs) (hb : Below B w w') (hg : g < B) : Blk w' g t cs := (hb.block g hg).trans h
theorem Blk.of_own {base n c : Nat} {size : Nat} {xs : List Value} {e : TypeId} (h : w.ownsRow base e size (.slice (some ⟨g, 0, none⟩) n c) n xs) (_ : 0 < n) : ∃ cur, Blk w g e cur ∧ base ≤ g := by
  rcases h.2 with ⟨hv, _⟩ | ⟨g2, cap, cur, hv, hb, hh, _⟩
  · cases hv
  · injection hv with hA
    injection hA with hA
    injection hA with hA
    subst hA
    exact ⟨cur, hh, hb⟩
/-- two blocks of different element types are not one -/
theorem Blk.ne {g' : Nat} {t' : TypeId} {cs' : Array Value} (h : Blk w g t cs) (h' : Blk w g' t' cs') (hne : t ≠ t') : g ≠ g' := by
  rintro rfl
  unfold Blk at h h'
  rw [h] at h'
  injection h' with h'
  injection h' with _ ht
  exact hne ht
theorem Blk.own_ne {base n : Nat} {size : Nat} {xs : List Value} {e : TypeId} {v : Value} (h : Blk w g t cs) (h' : w.ownsRow base e size v n xs) (hne : e ≠ t) : v.ownBlock ≠ some g := by
  intro hv
  rcases h'.2 with ⟨rfl, _⟩ | ⟨g2, cap, cur, rfl, hb, hh, _⟩
  · simp [Value.ownBlock] at hv
  · simp only [Value.ownBlock, Option.some.injEq] at hv
    subst hv
    exact (Blk.ne (show Blk w g2 e cur from hh) h hne) rfl
end

/-- a row of which the first k cells are laid -/
def upto {α : Type} (F : Nat → α) (k n : Nat) (z : α) : List α := (List.range k).map F ++ List.replicate (n - k) z
theorem upto_length {α : Type} (F : Nat → α) (k n : Nat) (z : α) (h : k ≤ n) : (upto F k n z).length = n := by simp only [upto, List.length_append, List.length_map, List.length_range, List.length_replicate]; omega
theorem upto_set {α : Type} (F : Nat → α) (k n : Nat) (z : α) (h : k < n) : (upto F k n z).set k (F k) = upto F (k + 1) n z := by
  rw [upto, upto, List.set_append, if_neg (by simp), show n - k = (n - (k + 1)) + 1 from by omega, List.replicate_succ, List.range_succ]
  simp
theorem upto_at {α : Type} (F : Nat → α) (k n : Nat) (z : α) (h : k < n) : (upto F k n z)[k]? = some z := by
  rw [upto, List.getElem?_append_right (by simp), List.getElem?_replicate, if_pos (by simp only [List.length_map, List.length_range]; omega)]

/-- a page's block -/
def pcells (p : List Int) : Array Value := (ints .u8 p).toArray
theorem pcells_get (p : List Int) (i : Nat) : (pcells p)[i]? = (p[i]?).map (Value.int .u8) := by simp [pcells, ints]

theorem equal_any (g g' : Nat) (p p' : List Int) (w : World) (hp : Blk w g 5 (pcells p)) (hp' : Blk w g' 5 (pcells p')) (hl : p.length = 128) (hl' : p'.length = 128) :
    Calls Try.prog 25 #[.slice (some ⟨g, 0, none⟩) 128 128, .slice (some ⟨g', 0, none⟩) 128 128] w fun e w' => ∃ b, e = .returned (.bool b) ∧ (b = true → p = p') ∧ Below w.heap.size w w' := by
  go_enter Try.func25, Try.ntmps25
  go_wp2
  go_loopw [5, 13] (fun _ i wr => ∃ k : Nat, k ≤ 128 ∧ i = .int .i64 k ∧ (∀ j, j < k → p[j]? = p'[j]?) ∧ Below w.heap.size w wr) (fun _ i _ => 128 - (intOf i).toNat)
  case atStart => exact ⟨0, Nat.zero_le _, rfl, fun j h => absurd h (by omega), Below.refl _ _⟩
  case round =>
    obtain ⟨k, hk, rfl, he, hb⟩ := hrel
    by_cases hlt : k < 128
    · have e1 := ((hp.below hb hp.lt).cell k).trans ((pcells_get p k).trans (by rw [List.getElem?_eq_getElem (by omega)]; first | done | rfl))
      have e2 := ((hp'.below hb hp'.lt).cell k).trans ((pcells_get p' k).trans (by rw [List.getElem?_eq_getElem (by omega)]; first | done | rfl))
      have HE : Hid (p[k]'(by omega) = p'[k]'(by omega) → ∀ j, j < k + 1 → p[j]? = p'[j]?) := by
        intro hq j hj
        by_cases hjk : j < k
        · exact he j hjk
        · obtain rfl : j = k := by omega
          rw [List.getElem?_eq_getElem (by omega), List.getElem?_eq_getElem (by omega), hq]
      have y1 : (k : Int) < 128 := by omega
      clear hp hp' he
      generalize p[k]'(by omega) = x at *
      generalize p'[k]'(by omega) = x' at *
      by_cases hx : x = x'
      · subst hx
        have HE2 := HE.out rfl
        have HE3 := Lib.hid HE2
        clear HE HE2
        go_wp2
        go_quiet (fail)
        go_wp2
        go_roundw
        case rel => exact ⟨k + 1, by omega, by go_num, HE3.out, drawn hb _⟩
        case measure => simp [intOf]; omega
      · have h1 : (x != x') = true := by simpa using hx
        have h2 : (x == x') = false := by simpa using hx
        clear HE
        go_wp2
        go_quiet (fail)
        go_wp2
        go_ret
        exact ⟨false, rfl, by simp, drawn hb _⟩
    · obtain rfl : k = 128 := by omega
      have HE : Hid (p = p') := by
        apply List.ext_getElem?
        intro j
        by_cases hj : j < 128
        · exact he j hj
        · rw [List.getElem?_eq_none (by omega), List.getElem?_eq_none (by omega)]
      clear he hp hp'
      go_wp2
      go_ret
      exact ⟨true, rfl, fun _ => HE.out, hb⟩

/-- ranges in a block, from a cell on -/
def RG (w : World) (g q n : Nat) (R : List G) : Prop :=
  R.length = n ∧ ∀ j (h : j < R.length), w.cell? ⟨g, q + j * 3, none⟩ = some (.int .i32 R[j].lo) ∧ w.cell? ⟨g, q + j * 3 + 1, none⟩ = some (.int .i32 R[j].hi) ∧ w.cell? ⟨g, q + j * 3 + 2, none⟩ = some (.int .u8 R[j].v)

/-- what 'whole' hands back -/
def wholeV (R : List G) (a o : Int) : Int := (wholeOf R 0 a o).getD 0
def wholeB (R : List G) (a o : Int) : Bool := (wholeOf R 0 a o).isSome

set_option maxHeartbeats 1000000 in
theorem whole_any (g q n c : Nat) (R : List G) (a o : Int) (w : World) (h : RG w g q n R) (last : Int) (hR : Rising last R) (ha : 0 ≤ a ∧ a ≤ 1114111) :
    Calls Try.prog 22 #[.slice (some ⟨g, q, none⟩) n c, .int .i32 a, .int .u8 o] w fun e w' => e = .returned (.tuple #[.int .u8 (wholeV R a o), .bool (wholeB R a o)]) ∧ w = w' := by
  obtain ⟨hl, hc⟩ := h
  rcases R with _ | ⟨x, r⟩
  · simp at hl
    subst hl
    clear hc
    go_enter Try.func22, Try.ntmps22
    go_wp2
    go_ret2
    exact ⟨rfl, rfl⟩
  · obtain ⟨c0, c1, c2⟩ := hc 0 (by simp)
    obtain ⟨r1, r2, r3, r4, r5, r6, _⟩ := hR
    simp only [Nat.zero_mul, Nat.add_zero, List.getElem_cons_zero] at c0 c1 c2
    obtain ⟨m, rfl⟩ : ∃ m, n = m + 1 := ⟨n - 1, by simp at hl; omega⟩
    have HV : Hid (wholeOf (x :: r) 0 a o = if a + 128 ≤ x.lo then some o else if x.lo ≤ a ∧ a + 127 ≤ x.hi then some x.v else none) := rfl
    clear hl hc
    obtain ⟨lo, hi, v⟩ := x
    simp only at *
    have x1 : IntKind.i32.wrap (a + 128) = a + 128 := by simp [IntKind.wrap, IntKind.signed, IntKind.bits]; omega
    have z0 : ((m : Int) + 1 == 0) = false := by simp; omega
    have z1 : (m + 1 == 0) = false := by simp
    have x2 : IntKind.i32.wrap (a + 128 - 1) = a + 127 := by simp [IntKind.wrap, IntKind.signed, IntKind.bits]; omega
    rcases (show a + 128 ≤ lo ∨ (lo < a + 128 ∧ lo ≤ a ∧ a + 127 ≤ hi) ∨ (lo < a + 128 ∧ lo ≤ a ∧ hi < a + 127) ∨ (lo < a + 128 ∧ a < lo) from by omega) with h1 | ⟨h1, h2, h3⟩ | ⟨h1, h2, h3⟩ | ⟨h1, h2⟩
    · have E1 : Hid (wholeV (⟨lo, hi, v⟩ :: r) a o = o) := by show _ = _; rw [wholeV, HV.out, if_pos h1]; rfl
      have E2 : Hid (wholeB (⟨lo, hi, v⟩ :: r) a o = true) := by show _ = _; rw [wholeB, HV.out, if_pos h1]; rfl
      clear HV
      go_enter Try.func22, Try.ntmps22
      go_wp2
      go_ret2
      exact ⟨by rw [E1.out, E2.out]; rfl, rfl⟩
    · have E1 : Hid (wholeV (⟨lo, hi, v⟩ :: r) a o = v) := by show _ = _; rw [wholeV, HV.out, if_neg (by omega), if_pos ⟨h2, h3⟩]; rfl
      have E2 : Hid (wholeB (⟨lo, hi, v⟩ :: r) a o = true) := by show _ = _; rw [wholeB, HV.out, if_neg (by omega), if_pos ⟨h2, h3⟩]; rfl
      clear HV
      have d1 : decide (a + 128 ≤ lo) = false := by simp; omega
      go_enter Try.func22, Try.ntmps22
      go_wp2
      go_ret2
      exact ⟨by rw [E1.out, E2.out]; rfl, rfl⟩
    · have E1 : Hid (wholeV (⟨lo, hi, v⟩ :: r) a o = 0) := by show _ = _; rw [wholeV, HV.out, if_neg (by omega), if_neg (by omega)]; rfl
      have E2 : Hid (wholeB (⟨lo, hi, v⟩ :: r) a o = false) := by show _ = _; rw [wholeB, HV.out, if_neg (by omega), if_neg (by omega)]; rfl
      clear HV
      have d1 : decide (a + 128 ≤ lo) = false := by simp; omega
      go_enter Try.func22, Try.ntmps22
      go_wp2
      go_ret2
      exact ⟨by rw [E1.out, E2.out]; rfl, rfl⟩
    · have E1 : Hid (wholeV (⟨lo, hi, v⟩ :: r) a o = 0) := by show _ = _; rw [wholeV, HV.out, if_neg (by omega), if_neg (by omega)]; rfl
      have E2 : Hid (wholeB (⟨lo, hi, v⟩ :: r) a o = false) := by show _ = _; rw [wholeB, HV.out, if_neg (by omega), if_neg (by omega)]; rfl
      clear HV
      have d1 : decide (a + 128 ≤ lo) = false := by simp; omega
      go_enter Try.func22, Try.ntmps22
      go_wp2
      go_ret2
      exact ⟨by rw [E1.out, E2.out]; rfl, rfl⟩
end Go.Proofs.Ytpipeemoikdlaaa.tr
