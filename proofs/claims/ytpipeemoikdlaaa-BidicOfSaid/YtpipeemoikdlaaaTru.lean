/-
  A region that draws its order, whose last operation writes a cell that others of its operations read first: those reads may be taken first, where the last one waits for them (through a chain of operations that none has come up of).
-/
import Derived.OrdersHeld
import Derived.Deep.RegionHeld3
namespace Go.Proofs.Ytpipeemoikdlaaa
open Go

section
variable {P : Program} {ops : Array Oper} {Q : Exit → Act → World → Prop} {md : Region.Mode} {S : World → Prop} {s : Nat}

/-- whatever comes up, one behind the other; S holds behind each operation but number s -/
def anyU (P : Program) (md : Region.Mode) (ops : Array Oper) (Q : Exit → Act → World → Prop) (S : World → Prop) (s : Nat) : Nat → Array Bool → Act → World → Prop
  | 0, done, a, w => Region.ready md ops done = [] ∧ Q .normal a w
  | left + 1, done, a, w => (Region.ready md ops done = [] → Q .normal a w) ∧
      ∀ i ∈ Region.ready md ops done, wpOp P ops Q i (fun b v => (i ≠ s → S v) ∧ anyU P md ops Q S s left (done.setIfInBounds i true) b v) a w

theorem anyU_any : ∀ (left : Nat) (done : Array Bool) (a : Act) (w : World), anyU P md ops Q S s left done a w → wpAny P md ops Q left done a w := by
  intro left
  induction left with
  | zero => exact fun _ _ _ h => h
  | succ left ih => exact fun done a w h => ⟨h.1, fun i hi => wpOp_mono (fun b v hb => ih _ b v hb.2) (h.2 i hi)⟩

theorem region_anyU {id : Nat} {a : Act} {w : World} (s : Nat) (S : World → Prop) (hm : P.follows .mixedOrders = true)
    (h : anyU P .any ops Q S s ops.size (Array.replicate ops.size false) a w.drew) : (Code.region id ops true).wp P Q a w :=
  wp_region_any hm (anyU_any _ _ _ _ h)

/-- each of U waits for one of i and U, and none of U has come up -/
def waits (md : Region.Mode) (ops : Array Oper) (done : Array Bool) (i : Nat) (U : List Nat) : Bool :=
  U.all fun u => !done.getD u true && ((ops[u]?).map fun o => o.after.any fun e => Region.binds md e && (i :: U).contains e.on).getD false

theorem waits_not {done : Array Bool} {i : Nat} {U : List Nat} (h : waits md ops done i U = true) (hi : i ∈ Region.ready md ops done) {j : Nat} (hj : j ∈ Region.ready md ops done) : j ∉ U := by
  intro hu
  have hu' := List.all_eq_true.1 h j hu
  obtain ⟨_, o, ho, hall⟩ := mem_ready.1 hj
  rw [ho] at hu'
  simp only [Option.map_some, Option.getD_some, Bool.and_eq_true, Array.any_eq_true] at hu'
  obtain ⟨_, k, hk, hb, hc⟩ := hu'
  have hd := hall _ (Array.getElem_mem hk) hb
  have hf : done.getD o.after[k].on true = false := by
    have hc' : o.after[k].on = i ∨ o.after[k].on ∈ U := by simpa using hc
    rcases hc' with hc | hc
    · rw [hc]; exact (mem_ready.1 hi).1
    · have := List.all_eq_true.1 h _ hc
      simp only [Bool.and_eq_true, Bool.not_eq_true'] at this
      exact this.1
  generalize o.after[k].on = m at *
  rcases Nat.lt_or_ge m done.size with hl | hl
  · simp [hl] at hd hf
    rw [hd] at hf
    cases hf
  · simp [Array.getElem?_eq_none hl] at hd

theorem waits_set {done : Array Bool} {i j : Nat} {U : List Nat} (h : waits md ops done i U = true) (hj : j ∉ U) : waits md ops (done.setIfInBounds j true) i U = true := by
  refine List.all_eq_true.2 fun u hu => ?_
  have := List.all_eq_true.1 h u hu
  have hne : j ≠ u := fun e => hj (by rw [e]; exact hu)
  simpa only [getD_set_ne true hne] using this

theorem anyU_first {i : Nat} {oi : Oper} {v : Value} {U : List Nat} (hi : ops[i]? = some oi) (hsel : ∀ (j : Nat) (o : Oper) cs b, ops[j]? = some o → o.op ≠ .select cs b)
    (hQ : ∀ c a w, Q (.panic c) (a.put oi.dst v) w → Q (.panic c) a w) (hs : s ∈ U) :
    ∀ (left : Nat) (done : Array Bool) (a : Act) (w : World),
      (∀ j oj, ops[j]? = some oj → j ≠ i → done.getD j true = false → (∀ e ∈ oj.after, Region.binds md e = true → e.on ≠ i) → oi.apart ops oj = true) →
      waits md ops done i U = true → i ∈ Region.ready md ops done → YieldsIf P ops S oi v a → S w →
      anyU P md ops Q S s left (done.setIfInBounds i true) (a.put oi.dst v) w → anyU P md ops Q S s (left + 1) done a w := by
  intro left
  induction left with
  | zero =>
    intro done a w _ hU hr hy hS H
    refine ⟨fun h => (by rw [h] at hr; cases hr), fun j hj => ?_⟩
    by_cases hji : j = i
    · subst hji
      exact hy.wpOp hi hS ⟨fun _ => hS, H⟩
    · have h0 := ready_mono hj hji
      rw [H.1] at h0
      cases h0
  | succ left ih =>
    intro done a w hfree hU hr hy hS H
    refine ⟨fun h => (by rw [h] at hr; cases hr), fun j hj => ?_⟩
    by_cases hji : j = i
    · subst hji
      exact hy.wpOp hi hS ⟨fun _ => hS, H⟩
    have hjU := waits_not hU hr hj
    have hjs : j ≠ s := fun e => hjU (e ▸ hs)
    obtain ⟨hjun, oj, hoj, hall⟩ := mem_ready.1 hj
    have hun : done.getD i true = false := (mem_ready.1 hr).1
    have hno : ∀ e ∈ oj.after, Region.binds md e = true → e.on ≠ i := by
      intro e he hb heq
      have hd := hall e he hb
      rw [heq] at hd
      rcases Nat.lt_or_ge i done.size with hl | hl
      · simp [hl] at hun hd
        rw [hun] at hd
        cases hd
      · simp [Array.getElem?_eq_none hl] at hd
    have hstep := wpOp_putIf hoj (hfree j oj hoj hji hjun hno) (fun cs b => hsel i oi cs b hi) (fun cs b => hsel j oj cs b hoj) hQ hy (H.2 j (ready_mono hj hji))
    refine wpOp_mono (fun b u hb => ⟨hb.2.1, ?_⟩) hstep
    refine ih _ b u (fun k ok hk hki hkun hkno => hfree k ok hk hki ?_ hkno) (waits_set hU hjU) (ready_mono hr (Ne.symm hji)) hb.1 (hb.2.1 hjs) ?_
    · by_cases hjk : j = k
      · subst hjk
        exact hjun
      · rwa [getD_set_ne true hjk] at hkun
    · rw [Array.setIfInBounds_comm _ _ hji]
      exact hb.2.2

/-- what waits for i, at once or through others -/
def behind (md : Region.Mode) (ops : Array Oper) (i : Nat) : Nat → List Nat
  | 0 => []
  | n + 1 => (List.range ops.size).filter fun u => ((ops[u]?).map fun o => o.after.any fun e => Region.binds md e && (i :: behind md ops i n).contains e.on).getD false

/-- take number i first: it may come up, nobody who could come ahead of it touches its slots, and number s waits for it -/
theorem anyU_take (i : Nat) {oi : Oper} {v : Value} {left : Nat} {done : Array Bool} {a : Act} {w : World} (hi : ops[i]? = some oi)
    (hc : (Region.noSelect ops && Region.free md ops done i && (Region.ready md ops done).contains i && waits md ops done i (behind md ops i ops.size) && (behind md ops i ops.size).contains s) = true)
    (hQ : ∀ c a w, Q (.panic c) (a.put oi.dst v) w → Q (.panic c) a w) (hS : S w) (hy : YieldsIf P ops S oi v a)
    (h : anyU P md ops Q S s left (done.setIfInBounds i true) (a.put oi.dst v) w) : anyU P md ops Q S s (left + 1) done a w := by
  simp only [Bool.and_eq_true] at hc
  obtain ⟨⟨⟨⟨hs, hf⟩, hr⟩, hU⟩, hsU⟩ := hc
  exact anyU_first hi (Region.noSelect_spec hs) hQ (by simpa using hsU) left done a w (Region.free_spec hi hf) hU (by simpa using hr) hy hS h

/-- one alone may come up; what follows is a letter -/
theorem anyU_one (i : Nat) {oi : Oper} {left : Nat} {done : Array Bool} {a : Act} {w : World} (hi : ops[i]? = some oi)
    (hr : Region.ready md ops done = [i]) (hw : Region.wanted oi (yielded ops a.tmps) = true)
    (h : ∀ K : Act → World → Prop, (∀ b v, (i ≠ s → S v) → anyU P md ops Q S s left (done.setIfInBounds i true) b v → K b v) → oi.wp P a w K Q) : anyU P md ops Q S s (left + 1) done a w := by
  refine ⟨fun h0 => (by rw [hr] at h0; cases h0), fun j hj => ?_⟩
  rw [hr] at hj
  obtain rfl := List.mem_singleton.1 hj
  unfold wpOp
  simp only [hi, hw, if_true]
  exact .inl (h _ fun b v hS hb => ⟨hS, hb⟩)

theorem anyU_end {left : Nat} {done : Array Bool} {a : Act} {w : World} (hr : Region.ready md ops done = []) (h : Q .normal a w) : anyU P md ops Q S s left done a w := by
  cases left with
  | zero => exact ⟨hr, h⟩
  | succ left => exact ⟨fun _ => h, fun i hi => by rw [hr] at hi; cases hi⟩

end
end Go.Proofs.Ytpipeemoikdlaaa
