/-
  Words for memory and small laws that the walks of this seat share: a slice value that reads as a list, an append of one element onto a row of the call's own.
-/
import Derived.WalkKit
import Derived.ProofKit
import Derived.OpenShut
import Derived.JoinedCond
import Derived.Deep.QuietTactic
import Derived.BigQuiet
import Derived.Deep.AppendLies
import Derived.Deep.Draws
import Derived.Lib.Hide
import Derived.Laws.OwnMore
import Derived.Laws.MakeOwn
import Derived.Maps.AppendAt
namespace Go.Proofs.Ytpipeemoikdlaaa
open Go.RowKit

theorem block_of_add (a : Addr) (n : Nat) : (a.add n).block = a.block := by unfold Addr.add; split <;> rfl
theorem add_of_add (a : Addr) (i j : Nat) : (a.add i).add j = a.add (i + j) := by
  unfold Addr.add
  by_cases hi : i = 0 <;> by_cases hj : j = 0 <;> simp [hi, hj, Nat.add_assoc]

/-- The slice value '.slice A n c' reads as the list xs of cells, 's' cells an element; nil is let in. -/
def Rd (w : World) (s : Nat) (A : Option Addr) (n : Nat) (xs : List Value) : Prop :=
  xs.length = n * s ∧ (0 < n → ∃ ad, A = some ad ∧ ∀ j u, xs[j]? = some u → w.cell? (ad.add j) = some u)

section
variable {w w' : World} {s n : Nat} {A : Option Addr} {xs : List Value}
theorem Rd.nil_ : Rd w s A 0 [] := ⟨by simp, fun h => absurd h (by omega)⟩
theorem Rd.cell_ (h : Rd w 1 A n xs) {k : Nat} {u : Value} (hu : xs[k]? = some u) : ∃ ad, A = some ad ∧ w.cell? (ad.add k) = some u := by
  have hl : k < xs.length := (List.getElem?_eq_some_iff.1 hu).1
  obtain ⟨ad, e, hc⟩ := h.2 (by have := h.1; omega)
  exact ⟨ad, e, hc k u hu⟩
theorem Rd.keep (h : Rd w s A n xs) (hk : ∀ p : Addr, p.block < w.heap.size → w'.cell? p = w.cell? p) : Rd w' s A n xs :=
  ⟨h.1, fun hn => by
    obtain ⟨ad, e, hc⟩ := h.2 hn
    exact ⟨ad, e, fun j u hu => (hk _ (World.block_lt_of_cell? w _ (hc j u hu))).trans (hc j u hu)⟩⟩
theorem Rd.below (h : Rd w s A n xs) {B : Nat} (hB : w.heap.size ≤ B) (hb : Below B w w') : Rd w' s A n xs := h.keep fun _ hp => hb.cell (by omega)
theorem Rd.same (h : Rd w s A n xs) (hb : Below w.heap.size w w') : Rd w' s A n xs := h.below (Nat.le_refl _) hb
theorem Rd.of_own {base : Nat} {e : TypeId} {c : Nat} (h : w.ownsRow base e s (.slice A n c) n xs) : Rd w s A n xs := by
  refine ⟨h.1, fun hn => ?_⟩
  obtain ⟨g, cap, hv, _, hlt⟩ := h.form hn
  have hA : A = some ⟨g, 0, none⟩ := by injection hv
  subst hA
  exact ⟨_, rfl, h.cells (g := g) rfl⟩
end

/-- A row of the call's own is a slice value. -/
theorem own_slice {w : World} {base : Nat} {e : TypeId} {s n : Nat} {v : Value} {xs : List Value} (h : w.ownsRow base e s v n xs) :
    ∃ A c, v = .slice A n c ∧ n ≤ c ∧ Rd w s A n xs := by
  rcases h.2 with ⟨rfl, rfl⟩ | ⟨g, cap, cur, rfl, _, _, hc, _⟩
  · exact ⟨_, _, rfl, Nat.le_refl _, Rd.of_own h⟩
  · exact ⟨_, _, rfl, hc, Rd.of_own h⟩

/-- A list of numbers, as cells of one kind. -/
abbrev ints (K : IntKind) (zs : List Int) : List Value := zs.map (Value.int K)

theorem ints_at {K : IntKind} {zs : List Int} {k : Nat} (h : k < zs.length) : (ints K zs)[k]? = some (.int K zs[k]) := by simp [ints, h]

/-- Below over an append on a row of the call's own. -/
theorem below_own {B base : Nat} {a w w' : World} {e : TypeId} {s n : Nat} {v : Value} {xs : List Value} (h : Below B a w) (hown : w.ownsRow base e s v n xs) (hb : B ≤ base)
    (hg : w.grownBy w' v.ownBlock) (hB : B ≤ w.heap.size) : Below B a w' :=
  h.grown hg hB fun k hk => by have := (hown.lt k hk).1; omega

/-- append(out, x), x one cell: the row is one longer; x lies in a block of its own. -/
theorem wpList_append_one {P : Program} {w : World} {ops : Array Oper} {rest : List Oper} {o : Oper} {a : Act} {Q : Exit → Act → World → Prop} (hgd : o.guard = none) (s x : Operand) (t : TypeId)
    (ho : o.op = .call { callee := .builtin .append, args := #[s, x], argTypes := #[t, t] })
    (B : Nat) (w0 : World) (base : Nat) (e : TypeId) (i : TypeInfo) (z : Value) (bytes : Nat) (ht : P.underlying t = some (.slice e)) (hi : P.info? e = some i) (hz : i.zero = some z)
    (hsize : i.size = 1) (hby : i.bytes = bytes) (hzs : z.cells.size = 1)
    (v : Value) (n : Nat) (xs : List Value) (hs : a.eval s = v) (hown : w.ownsRow base e 1 v n xs)
    (u : Value) (ty : TypeId) (hu : u.oneCell' = true) (h0 : Nat) (hx : a.eval x = .slice (some ⟨h0, 0, none⟩) 1 1) (hh : h0 = w.heap.size)
    (hbel : Below B w0 w) (hB : B ≤ w.heap.size) (hBb : B ≤ base) (hbase : base ≤ w.heap.size) (h63 : n + 1 ≤ 4194304) (hb8 : bytes ≤ 4096)
    (h : ∀ v' w', w'.ownsRow base e 1 v' (n + 1) (xs ++ [u]) → Below B w0 w' → w.grownBy w' v.ownBlock → (v'.ownBlock = v.ownBlock ∨ ∃ g, v'.ownBlock = some g ∧ w.heap.size ≤ g) → wpList P ops Q rest (a.put o.dst v') w') :
    wpList P ops Q (o :: rest) a (w.alloc (.cells #[u] ty)) := by
  subst hh
  have hbb : (n + 1) * bytes ≤ 140737488355328 := Nat.le_trans (Nat.mul_le_mul h63 hb8) (by decide)
  refine wpList_append_own_at _ hgd s x t ho base e i z 1 bytes ht hi hz hsize hby hzs (by decide) v n xs hs (hown.alloc _) ⟨w.heap.size, 0, none⟩ 1 1 [u] hx rfl ?_ ?_ (by unfold maxLen; omega) hbb (by simp; omega) ?_
  · intro j q hj
    match j, hj with
    | 0, hj =>
      simp only [List.getElem?_cons_zero, Option.some.injEq] at hj
      subst hj
      simp [Addr.add]
  · intro q hq
    simp only [List.mem_singleton] at hq
    subst hq; exact hu
  · intro v' w' h1 h2 _ h4
    refine h v' w' h1 (below_own (hbel.alloc hB _) (hown.alloc _) hBb h2 (by simp; omega)) ((World.grownBy_alloc w _ _).trans h2) ?_
    rcases h4 with h4 | h4
    · exact .inl h4
    · exact .inr ⟨_, h4, by simp⟩

/-- Places (numbers from 0 on), as cells of the kind int. -/
abbrev nats (zs : List Nat) : List Value := zs.map fun (z : Nat) => Value.int .i64 (z : Int)
theorem nats_at {zs : List Nat} {k : Nat} (h : k < zs.length) : (nats zs)[k]? = some (.int .i64 (zs[k] : Int)) := by simp [nats, h]

theorem take_succ_ {α : Type} (l : List α) (k : Nat) (h : k < l.length) : l.take (k + 1) = l.take k ++ [l[k]] := by
  rw [List.take_succ_eq_append_getElem h]

/-- make([]T, n), T one cell: an equation for every world. -/
theorem make_one {P : Program} (t e : TypeId) (i : TypeInfo) (z : Value) (bytes : Nat) (ht : P.underlying t = some (.slice e)) (hi : P.info? e = some i) (hz : i.zero = some z)
    (hsize : i.size = 1) (hby : i.bytes = bytes) (n : Nat) (hn : n ≤ 4194304) (hb : bytes ≤ 4096) (w : World) :
    (Instr.makeSlice t (.int .i64 (n : Int)) (.int .i64 (n : Int))).run P w = .ok (.slice (some ⟨w.heap.size, 0, none⟩) n n) (w.alloc (.cells (madeCells z.cells n) e)) := by
  have hbb : i.bytes * n ≤ 281474976710656 := by
    rw [hby]
    exact Nat.le_trans (Nat.mul_le_mul hb hn) (by decide)
  have hbb' : (i.bytes : Int) * (n : Int) ≤ 281474976710656 := by
    have h : ((i.bytes * n : Nat) : Int) ≤ 281474976710656 := by omega
    rwa [Int.natCast_mul] at h
  have h := run_make (P := P) w t e i z ht hi hz .i64 .i64 (n : Int) (n : Int) (by omega) (Int.le_refl _) hbb' (by omega)
  simpa [hsize] using h

theorem made_own (w : World) (e : TypeId) (K : IntKind) (n : Nat) (hn : n ≤ 4194304) {base : Nat} (hb : base ≤ w.heap.size) :
    (w.alloc (.cells (madeCells #[Value.int K 0] n) e)).ownsRow base e 1 (.slice (some ⟨w.heap.size, 0, none⟩) n n) n (ints K (List.replicate n 0)) := by
  have h := World.ownsRow_lit (base := base) (e := e) (size := 1) w (madeCells #[Value.int K 0] n) n hb (by unfold maxLen; omega) (by simp [madeCells])
  rw [toList_madeCells_one] at h
  simpa [ints] using h

/-- A row of the call's own from 'base' on is not a block below it. -/
theorem own_ne {w : World} {base : Nat} {e : TypeId} {s n g : Nat} {v : Value} {xs : List Value} (h : w.ownsRow base e s v n xs) (hg : g < base) : v.ownBlock = none ∨ v.ownBlock ≠ some g :=
  Or.inr fun e => by have := (h.lt g e).1; omega
theorem own_block {w w' : World} {base : Nat} {e : TypeId} {s n : Nat} {v : Value} {xs : List Value} (h : w.ownsRow base e s v n xs) (hb : ∀ g, v.ownBlock = some g → w'.heap[g]? = w.heap[g]?) :
    w'.ownsRow base e s v n xs := by
  refine ⟨h.1, ?_⟩
  rcases h.2 with hn | ⟨g, cap, cur, rfl, hbb, hgg, rest⟩
  · exact .inl hn
  · exact .inr ⟨g, cap, cur, rfl, hbb, (hb g rfl).trans hgg, rest⟩
theorem ints_set (K : IntKind) (zs : List Int) (k : Nat) (z : Int) : (ints K zs).set k (.int K z) = ints K (zs.set k z) := by simp [ints, List.map_set]
theorem own_size {w : World} {base : Nat} {e : TypeId} {s n g l c : Nat} {xs : List Value} (h : w.ownsRow base e s (.slice (some ⟨g, 0, none⟩) l c) n xs) : g + 1 ≤ w.heap.size := (h.lt g rfl).2
theorem ret_int {k : IntKind} {a b : Int} (h : a = b) : Ending.returned (.int k a) = .returned (.int k b) := by rw [h]
theorem ret_bool {a b : Bool} (h : a = b) : Ending.returned (.bool a) = .returned (.bool b) := by rw [h]
/-- one step of a loop that fills a list -/
theorem fill_set {α : Type} (a b : α) (n k : Nat) (h : k < n) : (List.replicate k a ++ List.replicate (n - k) b).set k a = List.replicate (k + 1) a ++ List.replicate (n - (k + 1)) b := by
  have e : n - k = (n - (k + 1)) + 1 := by omega
  rw [e, List.replicate_succ, List.replicate_succ']
  simp
theorem own_own_ne {w : World} {b b' : Nat} {e e' : TypeId} {s s' n n' : Nat} {v v' : Value} {xs xs' : List Value} (h : w.ownsRow b e s v n xs) (h' : w.ownsRow b' e' s' v' n' xs') (hne : e ≠ e') {g : Nat} (hg : v.ownBlock = some g) :
    v'.ownBlock ≠ some g := by
  intro hg'
  rcases h.2 with ⟨rfl, _⟩ | ⟨g1, _, _, rfl, _, hh1, _⟩
  · simp [Value.ownBlock] at hg
  · rcases h'.2 with ⟨rfl, _⟩ | ⟨g2, _, _, rfl, _, hh2, _⟩
    · simp [Value.ownBlock] at hg'
    · simp only [Value.ownBlock, Option.some.injEq] at hg hg'
      subst hg; subst hg'
      rw [hh1] at hh2
      injection hh2 with hh2
      injection hh2 with _ ht
      exact hne ht
theorem drawn {B : Nat} {a w : World} (h : Below B a w) (n : Nat) : Below B a (w.drewN n) := ⟨h.os, h.tape, h.output, h.size, h.block⟩

/-- append(out, xs...), the source a slice that reads as a list, nil let in. -/
theorem run_append_nil {P : Program} (w : World) (base : Nat) (t ty e : TypeId) (i : TypeInfo) (size : Nat) (ht : P.underlying t = some (.slice e)) (hi : P.info? e = some i)
    (v : Value) (n : Nat) (xs : List Value) (hown : w.ownsRow base e size v n xs) (c : Nat) : (Builtin.append_ #[t, t] ty #[v, .slice none 0 c]).run P w = .ok v w := by
  rcases hown.2 with ⟨rfl, rfl⟩ | ⟨g, cap, cur, rfl, _, _, hnc, _⟩
  · simp [Builtin.append_, run_underlying ht, sizeOf, typeInfo, hi, Builtin.lenOf, Builtin.firstCells]
  · simp [Builtin.append_, run_underlying ht, sizeOf, typeInfo, hi, Builtin.lenOf, Builtin.firstCells, hnc, storeCells]

theorem wpList_append_rd {P : Program} {w : World} {ops : Array Oper} {rest : List Oper} {o : Oper} {a : Act} {Q : Exit → Act → World → Prop} (hgd : o.guard = none) (s x : Operand) (t : TypeId)
    (ho : o.op = .call { callee := .builtin .append, args := #[s, x], argTypes := #[t, t] })
    (B : Nat) (w0 : World) (base : Nat) (e : TypeId) (i : TypeInfo) (z : Value) (size bytes : Nat) (ht : P.underlying t = some (.slice e)) (hi : P.info? e = some i) (hz : i.zero = some z)
    (hsize : i.size = size) (hby : i.bytes = bytes) (hzs : z.cells.size = size) (hsz : 0 < size)
    (v : Value) (n : Nat) (xs : List Value) (hs : a.eval s = v) (hown : w.ownsRow base e size v n xs)
    (A : Option Addr) (m c : Nat) (news : List Value) (hx : a.eval x = .slice A m c) (hr : Rd w size A m news) (h1 : ∀ u ∈ news, u.oneCell' = true)
    (hbel : Below B w0 w) (hB : B ≤ w.heap.size) (hBb : B ≤ base) (hbase : base ≤ w.heap.size) (h63 : n + m ≤ 4194304) (hb8 : bytes ≤ 4096)
    (h : ∀ v' w', w'.ownsRow base e size v' (n + m) (xs ++ news) → Below B w0 w' → w.grownBy w' v.ownBlock → (v'.ownBlock = v.ownBlock ∨ ∃ g, v'.ownBlock = some g ∧ w.heap.size ≤ g) → wpList P ops Q rest (a.put o.dst v') w') :
    wpList P ops Q (o :: rest) a w := by
  have hbb : (n + m) * bytes ≤ 140737488355328 := Nat.le_trans (Nat.mul_le_mul h63 hb8) (by decide)
  rcases A with _ | ad
  · have hm : m = 0 := by
      rcases Nat.eq_zero_or_pos m with h0 | h0
      · exact h0
      · obtain ⟨ad, h, _⟩ := hr.2 h0
        cases h
    subst hm
    have hn : news = [] := List.eq_nil_of_length_eq_zero (by simpa using hr.1)
    subst hn
    have hrun := run_append_nil (P := P) w base t o.type e i size ht hi v n xs hown c
    refine wpList_plain hgd fun K hK => ?_
    unfold Oper.wp execOp
    simp only [ho, resolve, invoke, builtin, Sem.run_bind, Sem.run_pure, Result.andThen_ok, List.map_toArray, List.map_cons, List.map_nil, hs, hx, hrun]
    exact hK _ _ (h v w (by simpa using hown) hbel (World.grownBy.refl w _) (.inl rfl))
  · have hcells : ∀ j u, news[j]? = some u → w.cell? (ad.add j) = some u := by
      intro j u hu
      have hj : j < news.length := (List.getElem?_eq_some_iff.1 hu).1
      have hm : 0 < m := by
        rcases Nat.eq_zero_or_pos m with h0 | h0
        · rw [hr.1, h0, Nat.zero_mul] at hj; omega
        · exact h0
      obtain ⟨ad', h, hc⟩ := hr.2 hm
      injection h with h
      subst h
      exact hc j u hu
    refine wpList_append_own_at _ hgd s x t ho base e i z size bytes ht hi hz hsize hby hzs hsz v n xs hs hown ad m c news hx hr.1 hcells h1 (by unfold maxLen; omega) hbb hbase ?_
    intro v' w' h2 h3 _ h4
    refine h v' w' h2 (below_own hbel hown hBb h3 hB) h3 ?_
    rcases h4 with h4 | h4
    · exact .inl h4
    · exact .inr ⟨_, h4, Nat.le_refl _⟩
theorem ints_one {K : IntKind} {zs : List Int} : ∀ u ∈ ints K zs, u.oneCell' = true := by
  intro u hu
  simp only [ints, List.mem_map] at hu
  obtain ⟨z, _, rfl⟩ := hu
  rfl
theorem Rd.alloc {w : World} {s n : Nat} {A : Option Addr} {xs : List Value} (h : Rd w s A n xs) (o : Obj) : Rd (w.alloc o) s A n xs := h.keep fun p hp => World.cell?_alloc_lt w o p hp
/-- a slice's first n elements -/
theorem Rd.take {w : World} {n k : Nat} {A : Option Addr} {K : IntKind} {zs : List Int} (h : Rd w 1 A n (ints K zs)) (hk : k ≤ n) : Rd w 1 A k (ints K (zs.take k)) := by
  refine ⟨by have := h.1; simp [ints] at this ⊢; omega, fun hn => ?_⟩
  obtain ⟨ad, e, hc⟩ := h.2 (by omega)
  refine ⟨ad, e, fun j u hu => hc j u ?_⟩
  simp only [ints, List.map_take, List.getElem?_take] at hu ⊢
  split at hu
  · exact hu
  · cases hu
/-- a slice that the text lays out -/
theorem lit_rd {w : World} {e : TypeId} {g : Nat} (cs : Array Value) (n : Nat) (hn : n ≤ 4194304) (hs : cs.size = n) (hg : g = w.heap.size) : Rd (w.alloc (.cells cs e)) 1 (some ⟨g, 0, none⟩) n cs.toList := by
  subst hg
  exact Rd.of_own (World.ownsRow_lit (base := w.heap.size) (e := e) (size := 1) w cs n (Nat.le_refl _) (by unfold maxLen; omega) (by omega))
theorem Rd.drew {w : World} {s n : Nat} {A : Option Addr} {xs : List Value} (h : Rd w s A n xs) : Rd w.drew s A n xs := h

/-- append(out, x), x of several cells that lie in a block of their own. -/
theorem wpList_append_new {P : Program} {w : World} {ops : Array Oper} {rest : List Oper} {o : Oper} {a : Act} {Q : Exit → Act → World → Prop} (hgd : o.guard = none) (s x : Operand) (t : TypeId)
    (ho : o.op = .call { callee := .builtin .append, args := #[s, x], argTypes := #[t, t] })
    (B : Nat) (w0 : World) (base : Nat) (e : TypeId) (i : TypeInfo) (z : Value) (size bytes : Nat) (ht : P.underlying t = some (.slice e)) (hi : P.info? e = some i) (hz : i.zero = some z)
    (hsize : i.size = size) (hby : i.bytes = bytes) (hzs : z.cells.size = size) (hsz : 0 < size)
    (v : Value) (n : Nat) (xs : List Value) (hs : a.eval s = v) (hown : w.ownsRow base e size v n xs)
    (cells : Array Value) (ty : TypeId) (hcs : cells.size = size) (hu : ∀ u ∈ cells.toList, u.oneCell' = true) (h0 : Nat) (hx : a.eval x = .slice (some ⟨h0, 0, none⟩) 1 1) (hh : h0 = w.heap.size)
    (hbel : Below B w0 w) (hB : B ≤ w.heap.size) (hBb : B ≤ base) (hbase : base ≤ w.heap.size) (h63 : n + 1 ≤ 4194304) (hb8 : bytes ≤ 4096)
    (h : ∀ v' w', w'.ownsRow base e size v' (n + 1) (xs ++ cells.toList) → Below B w0 w' → w.grownBy w' v.ownBlock → (v'.ownBlock = v.ownBlock ∨ ∃ g, v'.ownBlock = some g ∧ w.heap.size ≤ g) → wpList P ops Q rest (a.put o.dst v') w') :
    wpList P ops Q (o :: rest) a (w.alloc (.cells cells ty)) := by
  subst hh
  have hbb : (n + 1) * bytes ≤ 140737488355328 := Nat.le_trans (Nat.mul_le_mul h63 hb8) (by decide)
  have hlit := World.ownsRow_lit (base := w.heap.size) (e := ty) (size := size) w cells 1 (Nat.le_refl _) (by unfold maxLen; omega) (by omega)
  refine wpList_append_own_at _ hgd s x t ho base e i z size bytes ht hi hz hsize hby hzs hsz v n xs hs (hown.alloc _) ⟨w.heap.size, 0, none⟩ 1 1 cells.toList hx (by simpa using hcs) (hlit.cells (g := w.heap.size) rfl) hu (by unfold maxLen; omega) hbb (by simp; omega) ?_
  intro v' w' h1 h2 _ h4
  refine h v' w' h1 (below_own (hbel.alloc hB _) (hown.alloc _) hBb h2 (by simp; omega)) ((World.grownBy_alloc w _ _).trans h2) ?_
  rcases h4 with h4 | h4
  · exact .inl h4
  · exact .inr ⟨_, h4, by simp⟩

end Go.Proofs.Ytpipeemoikdlaaa
