/-
  Layer 22: the contract of measure.Of over the program.
-/
import Derived.Test.YtmonkeencbhcmaaLcl
import Derived.WalkLawsBesides
import Derived.StillTailTactics
import Derived.Deep.DeepCutAuto
import Derived.Outline
import Derived.BigRegion
import Derived.IntWalk
namespace Go.Proofs.Ytmonkeencbhcmaa.me
open Go.RowKit lb

theorem infoI : (Try.prog.info? 3).map (fun i => (i.zero, i.size, i.bytes)) = some (some (.int .i64 0), 1, 8) := by kernel_rfl
theorem infoB : (Try.prog.info? 4).map (fun i => (i.zero, i.size, i.bytes)) = some (some (.bool false), 1, 1) := by kernel_rfl

def sumTo (ws : List Int) (k : Nat) : Int := (ws.take k).sum
def solidTo (cs : List Int) : Nat → Nat
  | 0 => 0
  | k + 1 => if cls (cs.getD k 0) = 9 then solidTo cs k else k + 1

theorem sumTo_succ (ws : List Int) (k : Nat) (h : k < ws.length) : sumTo ws (k + 1) = sumTo ws k + ws[k] := by
  rw [sumTo, sumTo, List.take_succ_eq_append_getElem h, List.sum_append]; simp
theorem sumTo_bd (ws : List Int) (hw : ∀ z ∈ ws, 0 ≤ z ∧ z ≤ 2) (k : Nat) : 0 ≤ sumTo ws k ∧ sumTo ws k ≤ 2 * k := by
  induction k with
  | zero => simp [sumTo]
  | succ k ih =>
    by_cases h : k < ws.length
    · rw [sumTo_succ ws k h]
      have := hw _ (List.getElem_mem h)
      omega
    · have e : sumTo ws (k + 1) = sumTo ws k := by rw [sumTo, sumTo, List.take_of_length_le (by omega), List.take_of_length_le (by omega)]
      rw [e]; omega
theorem solidTo_le (cs : List Int) (k : Nat) : solidTo cs k ≤ k := by
  induction k with
  | zero => exact Nat.le_refl _
  | succ k ih => rw [solidTo]; split <;> omega

/-- A ruler: a struct of three slices. -/
structure Rul (w : World) (v : Value) (n : Nat) (ws cs : List Int) : Prop where
  ex : ∃ b gs gd gz : Nat, v = .pointer (some ⟨b, 0, none⟩) ∧ w.cell? ⟨b, 0, none⟩ = some (.slice (some ⟨gs, 0, none⟩) (n + 1) (n + 1)) ∧
    w.cell? ⟨b, 1, none⟩ = some (.slice (some ⟨gd, 0, none⟩) (n + 1) (n + 1)) ∧ w.cell? ⟨b, 2, none⟩ = some (.slice (some ⟨gz, 0, none⟩) n n) ∧
    (∀ j, j ≤ n → w.cell? ⟨gs, j, none⟩ = some (.int .i64 (sumTo ws j))) ∧ (∀ j, j ≤ n → w.cell? ⟨gd, j, none⟩ = some (.int .i64 (solidTo cs j))) ∧
    (∀ j, j < n → w.cell? ⟨gz, j, none⟩ = some (.bool (ws.getD j 0 == 0)))

theorem Rul.same {w w' : World} {v : Value} {n : Nat} {ws cs : List Int} (h : Rul w v n ws cs) (hb : Below w.heap.size w w') : Rul w' v n ws cs := by
  obtain ⟨b, gs, gd, gz, h1, h2, h3, h4, h5, h6, h7⟩ := h.ex
  have k : ∀ (p : Addr) (u : Value), w.cell? p = some u → w'.cell? p = some u := fun p u hu => (hb.cell (World.block_lt_of_cell? w _ hu)).trans hu
  exact ⟨⟨b, gs, gd, gz, h1, k _ _ h2, k _ _ h3, k _ _ h4, fun j hj => k _ _ (h5 j hj), fun j hj => k _ _ (h6 j hj), fun j hj => k _ _ (h7 j hj)⟩⟩

/-- a block that is known whole -/
def Blk (w : World) (g : Nat) (t : TypeId) (cs : Array Value) : Prop := w.heap[g]? = some (.cells cs t (0, 0))

abbrev bools (zs : List Bool) : List Value := zs.map Value.bool

/-- what the loop of measure.Of keeps: the three rows, and the struct that holds them -/
structure St (w wr : World) (b gs gd gz m : Nat) (ss dd : List Int) (zz : List Bool) : Prop where
  ne : gs ≠ gd
  own : w.heap.size ≤ b
  blk : Blk wr b 49 #[.slice (some ⟨gs, 0, none⟩) (m + 1) (m + 1), .slice (some ⟨gd, 0, none⟩) (m + 1) (m + 1), .slice (some ⟨gz, 0, none⟩) m m]
  s : wr.ownsRow w.heap.size 3 1 (.slice (some ⟨gs, 0, none⟩) (m + 1) (m + 1)) (m + 1) (ints .i64 ss)
  d : wr.ownsRow w.heap.size 3 1 (.slice (some ⟨gd, 0, none⟩) (m + 1) (m + 1)) (m + 1) (ints .i64 dd)
  z : wr.ownsRow w.heap.size 4 1 (.slice (some ⟨gz, 0, none⟩) m m) m (bools zz)
  bel : Below w.heap.size w wr

/-- a row of which the first k cells are laid -/
def upto {α : Type} (F : Nat → α) (k n : Nat) (z : α) : List α := (List.range k).map F ++ List.replicate (n - k) z
theorem upto_length {α : Type} (F : Nat → α) (k n : Nat) (z : α) (h : k ≤ n) : (upto F k n z).length = n := by simp [upto]; omega
theorem upto_set {α : Type} (F : Nat → α) (k n : Nat) (z : α) (h : k < n) : (upto F k n z).set k (F k) = upto F (k + 1) n z := by
  rw [upto, upto, List.set_append, if_neg (by simp), show n - k = (n - (k + 1)) + 1 from by omega, List.replicate_succ, List.range_succ]
  simp
theorem upto_get {α : Type} (F : Nat → α) (k n : Nat) (z : α) (j : Nat) (h : j < k) : (upto F k n z)[j]? = some (F j) := by
  rw [upto, List.getElem?_append_left (by simpa using h)]
  simp [h]
theorem upto_at {α : Type} (F : Nat → α) (k n : Nat) (z : α) (h : k < n) : (upto F k n z)[k]? = some z := by
  rw [upto, List.getElem?_append_right (by simp), List.length_map, List.length_range, Nat.sub_self, List.getElem?_replicate, if_pos (by omega)]
theorem upto_one {α : Type} (F : Nat → α) (n : Nat) (z : α) (h : F 0 = z) : upto F 1 (n + 1) z = List.replicate (n + 1) z := by
  rw [upto, List.replicate_succ]; simp [h]
theorem upto_zero {α : Type} (F : Nat → α) (n : Nat) (z : α) : upto F 0 n z = List.replicate n z := by simp [upto]

section
variable {w wr : World} {b gs gd gz m : Nat} {ss dd : List Int} {zz : List Bool}
theorem Blk.drew {w : World} {g : Nat} {t : TypeId} {cs : Array Value} (h : Blk w g t cs) : Blk w.drew g t cs := h
theorem Blk.cell {w : World} {g : Nat} {t : TypeId} {cs : Array Value} (h : Blk w g t cs) (i : Nat) : w.cell? ⟨g, i, none⟩ = cs[i]? := cell_of_row w g i cs t (0, 0) h
theorem Blk.far {w : World} {g : Nat} {t : TypeId} {cs : Array Value} (h : Blk w g t cs) {p : Addr} (hp : g ≠ p.block) (u : Value) : Blk (w.setCell p u) g t cs := (Below.heap_setCell w p u g hp).trans h
theorem own_blk_ne {w : World} {base : Nat} {e t : TypeId} {size n g' c : Nat} {xs : List Value} {cs : Array Value} (h : w.ownsRow base e size (.slice (some ⟨g', 0, none⟩) n c) n xs) {g : Nat} (hg : Blk w g t cs) (hne : e ≠ t) : g' ≠ g := by
  rintro rfl
  rcases h.2 with ⟨hv, _⟩ | ⟨g2, cap, cur, hv, _, hh, _⟩
  · cases hv
  · injection hv with hA
    injection hA with hA
    injection hA with hA
    subst hA
    unfold Blk at hg
    rw [hg] at hh
    injection hh with hh
    injection hh with _ ht
    exact hne ht.symm
theorem row_far {w : World} {base : Nat} {e : TypeId} {size n g c : Nat} {xs : List Value} (h : w.ownsRow base e size (.slice (some ⟨g, 0, none⟩) n c) n xs) {p : Addr} (hp : g ≠ p.block) (u : Value) :
    (w.setCell p u).ownsRow base e size (.slice (some ⟨g, 0, none⟩) n c) n xs := own_block h fun g' hg => by
  simp only [Value.ownBlock, Option.some.injEq] at hg
  subst hg
  exact Below.heap_setCell w p u _ hp
theorem own_lo {w : World} {base : Nat} {e : TypeId} {size n g c : Nat} {xs : List Value} (h : w.ownsRow base e size (.slice (some ⟨g, 0, none⟩) n c) n xs) : base ≤ g := (h.lt g rfl).1
theorem own_ne_of {w : World} {b b' : Nat} {e e' : TypeId} {s s' n n' g g' c c' : Nat} {xs xs' : List Value} (h : w.ownsRow b e s (.slice (some ⟨g, 0, none⟩) n c) n xs) (h' : w.ownsRow b' e' s' (.slice (some ⟨g', 0, none⟩) n' c') n' xs') (hne : e ≠ e') : g ≠ g' := by
  intro hg
  subst hg
  exact own_own_ne h h' hne (g := g) rfl rfl

theorem St.drew (h : St w wr b gs gd gz m ss dd zz) : St w wr.drew b gs gd gz m ss dd zz := ⟨h.ne, h.own, h.blk.drew, h.s.drew, h.d.drew, h.z.drew, h.bel.drew⟩
theorem St.setS (h : St w wr b gs gd gz m ss dd zz) (j : Nat) (x : Int) : St w (wr.setCell ⟨gs, j, none⟩ (.int .i64 x)) b gs gd gz m (ss.set j x) dd zz :=
  ⟨h.ne, h.own, h.blk.far (own_blk_ne h.s h.blk (by decide)).symm _, by have := (h.s.stored j (.int .i64 x)).1; rwa [ints_set] at this, row_far h.d h.ne.symm _, row_far h.z (own_ne_of h.z h.s (by decide)) _, h.bel.setCell (own_lo h.s) _⟩
theorem St.setD (h : St w wr b gs gd gz m ss dd zz) (j : Nat) (x : Int) : St w (wr.setCell ⟨gd, j, none⟩ (.int .i64 x)) b gs gd gz m ss (dd.set j x) zz :=
  ⟨h.ne, h.own, h.blk.far (own_blk_ne h.d h.blk (by decide)).symm _, row_far h.s h.ne _, by have := (h.d.stored j (.int .i64 x)).1; rwa [ints_set] at this, row_far h.z (own_ne_of h.z h.d (by decide)) _, h.bel.setCell (own_lo h.d) _⟩
theorem St.setZ (h : St w wr b gs gd gz m ss dd zz) (j : Nat) (x : Bool) : St w (wr.setCell ⟨gz, j, none⟩ (.bool x)) b gs gd gz m ss dd (zz.set j x) :=
  ⟨h.ne, h.own, h.blk.far (own_blk_ne h.z h.blk (by decide)).symm _, row_far h.s (own_ne_of h.s h.z (by decide)) _, row_far h.d (own_ne_of h.d h.z (by decide)) _,
    by have := (h.z.stored j (.bool x)).1; rw [← List.map_set] at this; exact this, h.bel.setCell (own_lo h.z) _⟩
theorem St.atS (h : St w wr b gs gd gz m ss dd zz) {j : Nat} {x : Int} (hj : ss[j]? = some x) : wr.cell? ⟨gs, j, none⟩ = some (.int .i64 x) :=
  (h.s.cellAt j (by have := h.s.1; simp at this; have := (List.getElem?_eq_some_iff.1 hj).1; omega)).trans (by simp [ints, hj])
theorem St.atD (h : St w wr b gs gd gz m ss dd zz) {j : Nat} {x : Int} (hj : dd[j]? = some x) : wr.cell? ⟨gd, j, none⟩ = some (.int .i64 x) :=
  (h.d.cellAt j (by have := h.d.1; simp at this; have := (List.getElem?_eq_some_iff.1 hj).1; omega)).trans (by simp [ints, hj])
theorem St.atZ (h : St w wr b gs gd gz m ss dd zz) {j : Nat} {x : Bool} (hj : zz[j]? = some x) : wr.cell? ⟨gz, j, none⟩ = some (.bool x) :=
  (h.z.cellAt j (by have := h.z.1; simp at this; have := (List.getElem?_eq_some_iff.1 hj).1; omega)).trans (by simp [bools, hj])
end

theorem below_at {w w' : World} (hb : Below w.heap.size w w') {p : Addr} {u : Value} (h : w.cell? p = some u) : w'.cell? p = some u := (hb.cell (World.block_lt_of_cell? w _ h)).trans h

theorem made_int (w : World) (n g : Nat) (hg : g = w.heap.size) (hn : n ≤ 4194304) {base : Nat} (hb : base ≤ w.heap.size) :
    (w.alloc (.cells (madeCells #[Value.int .i64 0] n) 3)).ownsRow base 3 1 (.slice (some ⟨g, 0, none⟩) n n) n (ints .i64 (List.replicate n 0)) := by
  subst hg; exact made_own w _ .i64 n hn hb
theorem made_bool (w : World) (n g : Nat) (hg : g = w.heap.size) (hn : n ≤ 4194304) {base : Nat} (hb : base ≤ w.heap.size) :
    (w.alloc (.cells (madeCells #[Value.bool false] n) 4)).ownsRow base 4 1 (.slice (some ⟨g, 0, none⟩) n n) n (bools (List.replicate n false)) := by
  subst hg
  have h := World.ownsRow_lit (base := base) (e := 4) (size := 1) w (madeCells #[Value.bool false] n) n hb (by unfold maxLen; omega) (by simp [madeCells])
  rw [toList_madeCells_one] at h
  simpa using h
theorem blk_new (w : World) (t : TypeId) (cs : Array Value) (g : Nat) (hg : g = w.heap.size) : Blk (w.alloc (.cells cs t)) g t cs := by subst hg; exact heap_alloc_new w _

theorem st_new {w wr : World} {b gs gd gz m : Nat} {ss dd : List Int} {zz : List Bool}
    (blk : Blk wr b 49 #[.slice (some ⟨gs, 0, none⟩) (m + 1) (m + 1), .slice (some ⟨gd, 0, none⟩) (m + 1) (m + 1), .slice (some ⟨gz, 0, none⟩) m m])
    (ne : gs ≠ gd) (own : w.heap.size ≤ b)
    (s : wr.ownsRow w.heap.size 3 1 (.slice (some ⟨gs, 0, none⟩) (m + 1) (m + 1)) (m + 1) (ints .i64 ss))
    (d : wr.ownsRow w.heap.size 3 1 (.slice (some ⟨gd, 0, none⟩) (m + 1) (m + 1)) (m + 1) (ints .i64 dd))
    (z : wr.ownsRow w.heap.size 4 1 (.slice (some ⟨gz, 0, none⟩) m m) m (bools zz))
    (bel : Below w.heap.size w wr) : St w wr b gs gd gz m ss dd zz := ⟨ne, own, blk, s, d, z, bel⟩

theorem rowi0 (w : World) (a b c : Obj) (n : Nat) (hn : n ≤ 4194304) : (World.drew ((((w.alloc (.cells (madeCells #[Value.int .i64 0] n) 3)).alloc a).alloc b).alloc c)).ownsRow w.heap.size 3 1 (.slice (some ⟨w.heap.size, 0, none⟩) n n) n (ints .i64 (List.replicate n 0)) :=
  World.ownsRow.drew ((((made_int w n (w.heap.size) rfl hn (Nat.le_refl _)).alloc a).alloc b).alloc c)
theorem rowi1 (w : World) (a b c : Obj) (n : Nat) (hn : n ≤ 4194304) : (World.drew ((((w.alloc a).alloc (.cells (madeCells #[Value.int .i64 0] n) 3)).alloc b).alloc c)).ownsRow w.heap.size 3 1 (.slice (some ⟨w.heap.size + 1, 0, none⟩) n n) n (ints .i64 (List.replicate n 0)) :=
  World.ownsRow.drew (((made_int (w.alloc a) n (w.heap.size + 1) (by simp) hn (by simp; try omega)).alloc b).alloc c)
theorem rowi2 (w : World) (a b c : Obj) (n : Nat) (hn : n ≤ 4194304) : (World.drew ((((w.alloc a).alloc b).alloc (.cells (madeCells #[Value.int .i64 0] n) 3)).alloc c)).ownsRow w.heap.size 3 1 (.slice (some ⟨w.heap.size + 1 + 1, 0, none⟩) n n) n (ints .i64 (List.replicate n 0)) :=
  World.ownsRow.drew ((made_int ((w.alloc a).alloc b) n (w.heap.size + 1 + 1) (by simp) hn (by simp; try omega)).alloc c)
theorem rowb0 (w : World) (a b c : Obj) (n : Nat) (hn : n ≤ 4194304) : (World.drew ((((w.alloc (.cells (madeCells #[Value.bool false] n) 4)).alloc a).alloc b).alloc c)).ownsRow w.heap.size 4 1 (.slice (some ⟨w.heap.size, 0, none⟩) n n) n (bools (List.replicate n false)) :=
  World.ownsRow.drew ((((made_bool w n (w.heap.size) rfl hn (Nat.le_refl _)).alloc a).alloc b).alloc c)
theorem rowb1 (w : World) (a b c : Obj) (n : Nat) (hn : n ≤ 4194304) : (World.drew ((((w.alloc a).alloc (.cells (madeCells #[Value.bool false] n) 4)).alloc b).alloc c)).ownsRow w.heap.size 4 1 (.slice (some ⟨w.heap.size + 1, 0, none⟩) n n) n (bools (List.replicate n false)) :=
  World.ownsRow.drew (((made_bool (w.alloc a) n (w.heap.size + 1) (by simp) hn (by simp; try omega)).alloc b).alloc c)
theorem rowb2 (w : World) (a b c : Obj) (n : Nat) (hn : n ≤ 4194304) : (World.drew ((((w.alloc a).alloc b).alloc (.cells (madeCells #[Value.bool false] n) 4)).alloc c)).ownsRow w.heap.size 4 1 (.slice (some ⟨w.heap.size + 1 + 1, 0, none⟩) n n) n (bools (List.replicate n false)) :=
  World.ownsRow.drew ((made_bool ((w.alloc a).alloc b) n (w.heap.size + 1 + 1) (by simp) hn (by simp; try omega)).alloc c)

set_option maxRecDepth 100000 in
set_option maxHeartbeats 4000000 in
theorem of_keep (A : Option Addr) (n c : Nat) (A1 : Option Addr) (n1 c1 : Nat) (ws cs : List Int) (w : World) (hr : Rd w 1 A n (ints .i64 ws)) (hr1 : Rd w 1 A1 n1 (ints .u8 cs)) (hn : n ≤ 2097152)
    (hw : ∀ z ∈ ws, 0 ≤ z ∧ z ≤ 2) :
    Calls Try.prog 13 #[.slice A n c, .slice A1 n1 c1] w fun e w' => ∃ v, e = .returned v ∧ Rul w' v (min n n1) ws cs ∧ Below w.heap.size w w' ∧
      ∀ w2 : World, (∀ g, w.heap.size ≤ g → g < w'.heap.size → w2.heap[g]? = w'.heap[g]?) → Rul w2 v (min n n1) ws cs := by
  obtain ⟨i0, hi, hz0, hz1, hz2⟩ := info_parts infoI
  obtain ⟨j0, hj, hy0, hy1, hy2⟩ := info_parts infoB
  have HL := Lib.hid (show ws.length = n by simpa using hr.1)
  have HL1 := Lib.hid (show cs.length = n1 by simpa using hr1.1)
  obtain ⟨m, hm⟩ : ∃ m, min n n1 = m := ⟨_, rfl⟩
  have hmn : m ≤ n := by omega
  have hmn1 : m ≤ n1 := by omega
  have hm' : m = n ∨ m = n1 := by omega
  rw [hm]
  clear hm
  go_enter Try.func13, Try.ntmps13
  go_upto_region 1 with (fail)
  go_cut [5] (fun s wx => s = .int .i64 (m : Int) ∧ wx = w)
  case first =>
    go_wp2
    all_goals (go_meet; exact ⟨by first | rfl | (congr 1; omega), rfl⟩)
  case rest =>
    obtain ⟨rfl, rfl⟩ := hcut
    obtain ⟨W0, hW0⟩ : ∃ W0 : World, W0 = wc := ⟨_, rfl⟩
    subst hW0
    have hmk1 := fun W => make_one (P := Try.prog) 24 3 i0 (.int .i64 0) 8 Try.underlying24 hi hz0 hz1 hz2 (m + 1) (by omega) (by omega) W
    have hmk2 := fun W => make_one (P := Try.prog) 47 4 j0 (.bool false) 1 Try.underlying47 hj hy0 hy1 hy2 m (by omega) (by omega) W
    have e1 : ((m + 1 : Nat) : Int) = (m : Int) + 1 := by omega
    simp only [e1] at hmk1
    go_upto_region 2 with (fail)
    go_cut [6] (fun s wx => ∃ b gs gd gz : Nat, s = .pointer (some ⟨b, 0, none⟩) ∧ St W0 wx b gs gd gz m (List.replicate (m + 1) 0) (List.replicate (m + 1) 0) (List.replicate m false))
    case first =>
      go_region
      all_goals go_wp2
      all_goals go_meet
      all_goals
        refine ⟨_, _, _, _, rfl, st_new (Blk.drew (blk_new _ _ _ _ (by simp))) ?_ (by omega) ?_ ?_ ?_ ?_⟩
        · (first | (simp; done) | (simp; omega))
        · first | ((with_reducible refine rowi0 _ _ _ _ _ ?_); omega) | ((with_reducible refine rowi1 _ _ _ _ _ ?_); omega) | ((with_reducible refine rowi2 _ _ _ _ _ ?_); omega)
        · first | ((with_reducible refine rowi0 _ _ _ _ _ ?_); omega) | ((with_reducible refine rowi1 _ _ _ _ _ ?_); omega) | ((with_reducible refine rowi2 _ _ _ _ _ ?_); omega)
        · first | ((with_reducible refine rowb0 _ _ _ _ _ ?_); omega) | ((with_reducible refine rowb1 _ _ _ _ _ ?_); omega) | ((with_reducible refine rowb2 _ _ _ _ _ ?_); omega)
        · exact (((((Below.refl _ _).alloc (Nat.le_refl _) _).alloc (by simp) _).alloc (by simp; try omega) _).alloc (by simp; try omega) _).drew
    case rest =>
      obtain ⟨b, gs, gd, gz, rfl, hst⟩ := hcut
      clear hmk1 hmk2 e1
      rw [← upto_one (sumTo ws) m 0 rfl, ← upto_zero (fun j => ws.getD j 0 == 0) m false] at hst
      have hst' : St W0 wc b gs gd gz m (upto (sumTo ws) 1 (m + 1) 0) (upto (fun j => (solidTo cs j : Int)) 1 (m + 1) 0) (upto (fun j => ws.getD j 0 == 0) 0 m false) := by
        rw [upto_one (fun j => (solidTo cs j : Int)) m 0 rfl]
        rw [upto_one (sumTo ws) m 0 rfl] at hst ⊢
        exact hst
      clear hst
      go_wp2
      go_loopw [24] (fun i wr => ∃ k : Nat, k ≤ m ∧ i = .int .i64 k ∧ St W0 wr b gs gd gz m (upto (sumTo ws) (k + 1) (m + 1) 0) (upto (fun j => (solidTo cs j : Int)) (k + 1) (m + 1) 0) (upto (fun j => ws.getD j 0 == 0) k m false))
        (fun i _ => m - (intOf i).toNat)
      case atStart => exact ⟨0, Nat.zero_le _, rfl, hst'⟩
      case round =>
        clear hst'
        obtain ⟨k, hk, rfl, h⟩ := hrel
        by_cases hlt : k < m
        · have hkw : k < ws.length := by rw [HL.out]; omega
          have hkc : k < cs.length := by rw [HL1.out]; omega
          obtain ⟨ad, rfl, hcW⟩ := hr.cell_ (ints_at (K := .i64) hkw)
          obtain ⟨ad1, rfl, hcW1⟩ := hr1.cell_ (ints_at (K := .u8) hkc)
          have hc := below_at h.bel hcW
          have hgx : ws.getD k 0 = ws[k] := by rw [List.getD_eq_getElem?_getD, List.getElem?_eq_getElem hkw]; rfl
          have hgy : cs.getD k 0 = cs[k] := by rw [List.getD_eq_getElem?_getD, List.getElem?_eq_getElem hkc]; rfl
          have hso : (solidTo cs (k + 1) : Int) = if cls cs[k] = 9 then (solidTo cs k : Int) else (k : Int) + 1 := by rw [solidTo, hgy]; split <;> omega
          have HSO := Lib.hid hso
          have HGX := Lib.hid hgx
          clear hgx hgy hso hr hr1
          have c0 := h.blk.cell 0
          have c1 := h.blk.cell 1
          have c2 := h.blk.cell 2
          simp only [List.getElem?_toArray, List.getElem?_cons_zero, List.getElem?_cons_succ] at c0 c1 c2
          have s0 := h.atS (upto_get (sumTo ws) (k + 1) (m + 1) 0 k (by omega))
          have s1 := h.atS (upto_at (sumTo ws) (k + 1) (m + 1) 0 (by omega))
          have fs := h.s.frozenAt (k + 1)
          have hbs := sumTo_bd ws hw k
          have hxk := hw _ (List.getElem_mem hkw)
          have hsn := sumTo_succ ws k hkw
          go_wp2
          have b1 : (k : Int) < (m : Int) + 1 := by omega
          have b2 : (k : Int) + 1 < (m : Int) + 1 := by omega
          have b3 : k < m + 1 := by omega
          have b5 : (k : Int) < (n : Int) := by omega
          have b6 : (k : Int) < (n1 : Int) := by omega
          have b7 : (k : Int) < (m : Int) := by omega
          have b4 : (0 : Int) ≤ (k : Int) + 1 := by omega
          have x1 : IntKind.i64.wrap ((k : Int) + 1) = (k : Int) + 1 := IntWalk.i64_in _ (by omega)
          have x2 : ((k : Int) + 1).toNat = k + 1 := by omega
          have x3 : IntKind.i64.wrap (sumTo ws k + ws[k]) = sumTo ws k + ws[k] := IntWalk.i64_in _ (by omega)
          go_still_tail 19, (by kernel_rfl)
          change wpList _ _ _ _ _ wr.drew
          go_upto_region 7 with (fail)
          have h1 := (h.setS (k + 1) (sumTo ws (k + 1))).drew
          rw [upto_set _ _ _ _ (by omega), hsn] at h1
          clear hc c0 c1 c2 s0 s1 fs h x3
          generalize (wr.setCell ⟨gs, k + 1, none⟩ (.int .i64 (sumTo ws k + ws[k]))).drew = W1 at *
          have c1 := h1.blk.cell 1
          simp only [List.getElem?_toArray, List.getElem?_cons_zero, List.getElem?_cons_succ] at c1
          have d1 := h1.atD (upto_at _ _ _ _ (by omega))
          have fd := h1.d.frozenAt (k + 1)
          go_upto_region 8 with (fail)
          have h2 := h1.setD (k + 1) ((k : Int) + 1)
          clear c1 d1 fd h1
          generalize W1.setCell ⟨gd, k + 1, none⟩ (.int .i64 ((k : Int) + 1)) = W2 at *
          have hc1 := below_at h2.bel hcW1
          have hsd := solidTo_le cs k
          rcases (by cases h9 : (cls cs[k] == 9) <;> simp : (cls cs[k] == 9) = true ∨ (cls cs[k] == 9) = false) with h9 | h9
          · have he9 : cls cs[k] = 9 := by simpa using h9
            have HSP := Lib.hid (HSO.out.trans (if_pos he9))
            clear he9
            go_wp2_with (go_at_call 25; refine (cls_any _ _).mono ?_; rintro e w' ⟨rfl, rfl⟩)
            have c1 := h2.blk.cell 1
            simp only [List.getElem?_toArray, List.getElem?_cons_zero, List.getElem?_cons_succ] at c1
            have d0 := h2.atD (j := k) (by rw [List.getElem?_set_ne (by omega)]; exact upto_get _ _ _ _ k (by omega))
            have d1 := h2.atD (j := k + 1) (by rw [List.getElem?_set_self (by rw [upto_length _ _ _ _ (by omega)]; omega)])
            have fd := h2.d.frozenAt (k + 1)
            go_still_tail 14, (by kernel_rfl)
            change wpList _ _ _ _ _ W2.drew
            go_upto_region 10 with (fail)
            have h3 := (h2.setD (k + 1) (solidTo cs k : Int)).drew
            rw [List.set_set, ← HSP.out, upto_set (fun j => (solidTo cs j : Int)) (k + 1) (m + 1) 0 (by omega), HSP.out] at h3
            clear c1 d0 d1 fd h2 hc1
            generalize (W2.setCell ⟨gd, k + 1, none⟩ (.int .i64 (solidTo cs k : Int))).drew = W3 at *
            have hcx := below_at h3.bel hcW
            have z2 := h3.blk.cell 2
            simp only [List.getElem?_toArray, List.getElem?_cons_zero, List.getElem?_cons_succ] at z2
            have zk := h3.atZ (upto_at _ _ _ _ hlt)
            have fz := h3.z.frozenAt k
            go_still_tail 11, (by kernel_rfl)
            change wpList _ _ _ _ _ W3.drew
            go_wp2
            have h4 := (h3.setZ k (ws.getD k 0 == 0)).drew
            rw [upto_set (fun j => ws.getD j 0 == 0) k m false hlt, HGX.out] at h4
            go_roundw
            case rel => exact ⟨k + 1, by omega, by go_num, h4⟩
            case measure => simp [intOf]; omega
          · have he9 : ¬ cls cs[k] = 9 := by simpa using h9
            have HSP := Lib.hid (HSO.out.trans (if_neg he9))
            clear he9
            go_wp2_with (go_at_call 25; refine (cls_any _ _).mono ?_; rintro e w' ⟨rfl, rfl⟩)
            have h3 := h2
            rw [← HSP.out, upto_set (fun j => (solidTo cs j : Int)) (k + 1) (m + 1) 0 (by omega)] at h3
            clear h2 hc1
            obtain ⟨W3, hW3⟩ : ∃ W3 : World, W3 = W2 := ⟨_, rfl⟩
            subst hW3
            have hcx := below_at h3.bel hcW
            have z2 := h3.blk.cell 2
            simp only [List.getElem?_toArray, List.getElem?_cons_zero, List.getElem?_cons_succ] at z2
            have zk := h3.atZ (upto_at _ _ _ _ hlt)
            have fz := h3.z.frozenAt k
            go_still_tail 11, (by kernel_rfl)
            change wpList _ _ _ _ _ W3.drew
            go_wp2
            have h4 := (h3.setZ k (ws.getD k 0 == 0)).drew
            rw [upto_set (fun j => ws.getD j 0 == 0) k m false hlt, HGX.out] at h4
            go_roundw
            case rel => exact ⟨k + 1, by omega, by go_num, h4⟩
            case measure => simp [intOf]; omega
        · obtain rfl : m = k := by omega
          clear hr hr1
          go_wp2
          go_ret
          have hR : ∀ w2 : World, (∀ g, W0.heap.size ≤ g → g < wr.heap.size → w2.heap[g]? = wr.heap[g]?) → Rul w2 (.pointer (some ⟨b, 0, none⟩)) m ws cs := by
            intro w2 h2
            have k : ∀ (g j : Nat) (u : Value), W0.heap.size ≤ g → wr.cell? ⟨g, j, none⟩ = some u → w2.cell? ⟨g, j, none⟩ = some u := fun g j u hg hu =>
              (World.cell?_of_block (h2 g hg (World.block_lt_of_cell? wr _ hu))).trans hu
            exact ⟨⟨b, gs, gd, gz, rfl, k _ _ _ h.own (h.blk.cell 0), k _ _ _ h.own (h.blk.cell 1), k _ _ _ h.own (h.blk.cell 2), fun j hj => k _ _ _ (own_lo h.s) (h.atS (upto_get _ _ _ _ j (by omega))),
              fun j hj => k _ _ _ (own_lo h.d) (h.atD (upto_get _ _ _ _ j (by omega))), fun j hj => k _ _ _ (own_lo h.z) (h.atZ (upto_get _ _ _ _ j hj))⟩⟩
          exact ⟨_, rfl, hR wr (fun _ _ _ => rfl), h.bel, hR⟩

theorem of_any (A : Option Addr) (n c : Nat) (A1 : Option Addr) (n1 c1 : Nat) (ws cs : List Int) (w : World) (hr : Rd w 1 A n (ints .i64 ws)) (hr1 : Rd w 1 A1 n1 (ints .u8 cs)) (hn : n ≤ 2097152)
    (hw : ∀ z ∈ ws, 0 ≤ z ∧ z ≤ 2) :
    Calls Try.prog 13 #[.slice A n c, .slice A1 n1 c1] w fun e w' => ∃ v, e = .returned v ∧ Rul w' v (min n n1) ws cs ∧ Below w.heap.size w w' :=
  (of_keep A n c A1 n1 c1 ws cs w hr hr1 hn hw).mono fun _ _ ⟨v, h1, h2, h3, _⟩ => ⟨v, h1, h2, h3⟩
end Go.Proofs.Ytmonkeencbhcmaa.me
