/-
  Great literals of triples: a law for the walk; what the tables' functions lay.
-/
import Derived.Test.YtpipeemoikdlaaaTr1
import Derived.Great.Ranges
import Derived.Great.Walk
namespace Go.Proofs.Ytpipeemoikdlaaa.tr
open Go.RowKit Go.Great Go.Lib

/-- a triple's cells -/
def tcells (k : IntKind) (T : List (Int × Int × Int)) : List Value := T.flatMap fun x => [.int k x.1, .int k x.2.1, .int k x.2.2]
theorem tcells_length (k : IntKind) (T : List (Int × Int × Int)) : (tcells k T).length = T.length * 3 := by
  induction T with
  | nil => rfl
  | cons x r ih => simp only [tcells, List.flatMap_cons, List.length_append, List.length_cons] at ih ⊢; rw [ih]; simp; omega
theorem tcells_at {k : IntKind} {T : List (Int × Int × Int)} {i : Nat} {x : Int × Int × Int} (h : T[i]? = some x) (f : Nat) (hf : f < 3) : (tcells k T)[i * 3 + f]? = [Value.int k x.1, .int k x.2.1, .int k x.2.2][f]? := by
  induction T generalizing i with
  | nil => simp at h
  | cons v r ih =>
    cases i with
    | zero =>
      simp only [List.getElem?_cons_zero, Option.some.injEq] at h
      subst h
      simp only [tcells, List.flatMap_cons]
      rw [List.getElem?_append_left (by simp; omega)]
      simp
    | succ i =>
      have := ih (by simpa using h)
      simp only [tcells, List.flatMap_cons]
      rw [List.getElem?_append_right (by simp; omega)]
      rw [show (i + 1) * 3 + f - [Value.int k v.1, .int k v.2.1, .int k v.2.2].length = i * 3 + f from by simp; omega]
      exact this

/-- what counts of an operation -/
def strip (o : Oper) : Option Tmp × Op × Option (Nat × Bool) := (o.dst, o.op, o.guard)
/-- the operations of a literal of triples -/
def triOps (t : TypeId) (k : IntKind) : Nat → List (Int × Int × Int) → List (Option Tmp × Op × Option (Nat × Bool))
  | _, [] => []
  | d, x :: r => (some d, .build t #[(0, .const (.int k x.1)), (1, .const (.int k x.2.1)), (2, .const (.int k x.2.2))], none) :: triOps t k (d + 1) r

/-- a triple as cells -/
def tri3 (k : IntKind) (x : Int × Int × Int) : List Value := [.int k x.1, .int k x.2.1, .int k x.2.2]
theorem wpList_tri {P : Program} {ops : Array Oper} {rest : List Oper} {w : World} {Q : Exit → Act → World → Prop} (t : TypeId) (k : IntKind)
    (hb : ∀ x y z : Int, P.built t [(0, .int k x), (1, .int k y), (2, .int k z)] = some #[.int k x, .int k y, .int k z]) :
    ∀ (T : List (Int × Int × Int)) (l : List Oper) (d : Nat) (a : Act), l.map strip = triOps t k d T → d + T.length ≤ a.tmps.size →
      (∀ a' : Act, a'.tmps.size = a.tmps.size → a'.defers = a.defers → (∀ i (h : i < T.length), a'.eval (.tmp (d + i)) = .agg (tri3 k T[i]).toArray) → (∀ j, j < d → a'.eval (.tmp j) = a.eval (.tmp j)) → wpList P ops Q rest a' w) →
      wpList P ops Q (l ++ rest) a w
  | [], l, d, a, hl, _, h => by
    have : l = [] := by simpa [triOps] using hl
    subst this
    exact h a rfl rfl (fun i hi => absurd hi (by simp)) (fun _ _ => rfl)
  | x :: T, l, d, a, hl, hd, h => by
    cases l with
    | nil => simp [triOps] at hl
    | cons o l =>
      simp only [List.map_cons, triOps, List.cons.injEq] at hl
      obtain ⟨ho, hl⟩ := hl
      simp only [strip, Prod.mk.injEq] at ho
      obtain ⟨h1, h2, h3⟩ := ho
      have hlt : d < a.tmps.size := by simp at hd; omega
      show wpList P ops Q (o :: (l ++ rest)) a w
      refine wpList_buildTo h3 t _ h2 (some d) h1 (tri3 k x).toArray (by simpa [Act.eval, tri3] using hb x.1 x.2.1 x.2.2) ?_
      refine wpList_tri t k hb T l (d + 1) _ hl (by rw [Act.size_put]; simp at hd; omega) fun a' hs hdf hev hlow => ?_
      refine h a' (hs.trans (Act.size_put _ _ _)) (hdf.trans (Act.defers_put' _ _ _)) (fun i hi => ?_) (fun j hj => ?_)
      · cases i with
        | zero => rw [Nat.add_zero, hlow d (by omega), Act.eval_put_same _ _ _ hlt]; rfl
        | succ i =>
          have := hev i (by simpa using hi)
          rw [show d + (i + 1) = d + 1 + i by omega, this]
          rfl
      · rw [hlow j (by omega), Act.eval_put_ne _ _ _ _ (by omega)]
theorem wpList_assign {P : Program} {ops : Array Oper} {rest : List Oper} {o : Oper} {a : Act} {w : World} {Q : Exit → Act → World → Prop} (x : Operand) (d : Option Tmp) (hs : strip o = (d, .assign x, none))
    (h : wpList P ops Q rest (a.put d (a.eval x)) w) : wpList P ops Q (o :: rest) a w := by
  simp only [strip, Prod.mk.injEq] at hs
  obtain ⟨h1, h2, h3⟩ := hs
  exact wpList_runTo h3 d h1 (a.eval x) w (by unfold execOp; simp [h2]) h

/-- a function that is nothing but one literal of triples -/
theorem wpList_table {P : Program} {ops : Array Oper} {w : World} {Q : Exit → Act → World → Prop} (ts e : TypeId) (k : IntKind) (T : List (Int × Int × Int)) (l : List Oper) (a : Act)
    (hb : ∀ x y z : Int, P.built e [(0, .int k x), (1, .int k y), (2, .int k z)] = some #[.int k x, .int k y, .int k z])
    (hu : P.underlying ts = some (.slice e)) (hsz : (P.info? e).map (·.size) = some 3) (hz : ((P.info? e).bind (·.zero)).isSome = true) (hpos : 0 < T.length) (hsmall : T.length ≤ 100000)
    (hl : l.map strip = triOps e k 1 T ++ [(some (T.length + 1), .buildSlice ts T.length ((List.range T.length).map fun i => (i, Operand.tmp (1 + i))).toArray, none), (some 0, .assign (.tmp (T.length + 1)), none)])
    (hs : a.tmps.size = T.length + 2)
    (h : ∀ a' : Act, a'.tmps.size = a.tmps.size → a'.defers = a.defers → a'.eval (.tmp 0) = .slice (some ⟨w.heap.size, 0, none⟩) T.length T.length → Q .normal a' (w.alloc (.cells (tcells k T).toArray e))) :
    wpList P ops Q l a w := by
  obtain ⟨l1, l2, rfl, h1, h2⟩ := List.map_eq_append_iff.1 hl
  refine wpList_tri e k hb T l1 1 _ h1 (by omega) fun a' hs' hdf hev _ => ?_
  rcases l2 with _ | ⟨o1, _ | ⟨o2, _ | ⟨o3, l3⟩⟩⟩
  · simp at h2
  · simp at h2
  · simp only [List.map_cons, List.map_nil, List.cons.injEq, and_true] at h2
    obtain ⟨h2, h3⟩ := h2
    simp only [strip, Prod.mk.injEq] at h2
    obtain ⟨q1, q2, q3⟩ := h2
    cases hie : P.info? e with
    | none => simp [hie] at hsz
    | some ie =>
      simp only [hie, Option.map_some, Option.some.injEq, Option.bind_some] at hsz hz
      obtain ⟨z, hzz⟩ := Option.isSome_iff_exists.1 hz
      refine wpList_buildSlice q3 ts e T.length _ q2 (tcells k T).toArray ie z hu hie hzz (by rw [hsz]; omega) (by rw [hsz]; omega) ?_ ?_
      · have e1 : ((((List.range T.length).map fun i => (i, Operand.tmp (1 + i))).toArray).map fun (i, x) => (i, a'.eval x)).toList = ((T.map fun x => Value.agg (tri3 k x).toArray).zipIdx 0).map fun x => (x.2, x.1) := by
          rw [Array.toList_map, List.map_map]
          apply List.ext_getElem
          · simp
          · intro i h1 h2
            have hi : i < T.length := by simpa using h1
            simp only [List.getElem_map, List.getElem_range, Function.comp, List.getElem_zipIdx, Nat.zero_add]
            rw [hev i hi]
        rw [e1, hsz]
        have := fill_whole (s := 3) (by omega) (T.map fun x => Value.agg (tri3 k x).toArray) ((Array.range (T.length * 3)).map (z.cells[· % z.cells.size]!))
          (fun v hv => by obtain ⟨x, _, rfl⟩ := List.mem_map.1 hv; rfl) (by simp)
        rw [this]
        congr 2
        simp [List.flatMap_map, Value.cells, tcells, tri3]
      · rw [q1]
        refine wpList_assign _ _ h3 ?_
        refine wpList_nil ?_
        have hsz' : a'.tmps.size = T.length + 2 := by rw [hs', hs]
        refine h _ (by simp only [Act.size_put, hs']) (by simp only [Act.defers_put', hdf]) ?_
        rw [Act.eval_put_same _ _ _ (by rw [Act.size_put, hsz']; omega), Act.eval_put_same _ _ _ (by rw [hsz']; omega)]
  · simp at h2
end Go.Proofs.Ytpipeemoikdlaaa.tr
