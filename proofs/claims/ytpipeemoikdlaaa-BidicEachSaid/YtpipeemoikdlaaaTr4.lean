/-
  The trie: the contract of Build over the program.
-/
import Derived.Test.YtpipeemoikdlaaaTr3
import Derived.Test.YtpipeemoikdlaaaTru
import Derived.StillTailTactics
import Derived.IntWalk
import Derived.Deep.CutBlock
namespace Go.Proofs.Ytpipeemoikdlaaa.tr
open Go.RowKit

/-- which page each block has -/
def Good (R : List G) (o : Int) (idx : List Nat) (P : List (List Int)) (m : Nat) : Prop :=
  idx.length = m ∧ ∀ b, b < m → ∃ p, idx[b]? = some p ∧ P[p]? = some (pageAt R o (128 * (b : Int)))
theorem Good.more {R : List G} {o : Int} {idx : List Nat} {P P' : List (List Int)} {m : Nat} (h : Good R o idx P m) (hp : ∀ (i : Nat) (q : List Int), P[i]? = some q → P'[i]? = some q) : Good R o idx P' m :=
  ⟨h.1, fun b hb => by obtain ⟨p, h1, h2⟩ := h.2 b hb; exact ⟨p, h1, hp _ _ h2⟩⟩
theorem Good.step {R : List G} {o : Int} {idx : List Nat} {P : List (List Int)} {m j : Nat} (h : Good R o idx P m) (hj : P[j]? = some (pageAt R o (128 * (m : Int)))) : Good R o (idx ++ [j]) P (m + 1) := by
  refine ⟨by simp [h.1], fun b hb => ?_⟩
  by_cases hbm : b < m
  · obtain ⟨p, h1, h2⟩ := h.2 b hbm
    exact ⟨p, by rw [List.getElem?_append_left (by rw [h.1]; exact hbm)]; exact h1, h2⟩
  · obtain rfl : b = m := by omega
    exact ⟨j, by rw [List.getElem?_append_right (by rw [h.1]; exact Nat.le_refl _), h.1, Nat.sub_self]; rfl, hj⟩

/-- the pages that have one value alone -/
def kcells (K : List Int) : Array Value := (ints .i64 K).toArray
def KOK (K : List Int) (P : List (List Int)) : Prop := K.length = 256 ∧ ∀ (v : Nat) (z : Int), K[v]? = some z → z = 0 ∨ ∃ p : Nat, z = (p : Int) + 1 ∧ p < 100000 ∧ P[p]? = some (List.replicate 128 (v : Int))
theorem KOK.more {K : List Int} {P P' : List (List Int)} (h : KOK K P) (hp : ∀ (i : Nat) (q : List Int), P[i]? = some q → P'[i]? = some q) : KOK K P' :=
  ⟨h.1, fun v z hz => (h.2 v z hz).imp id fun ⟨p, h1, h2, h3⟩ => ⟨p, h1, h2, hp _ _ h3⟩⟩
theorem KOK.set {K : List Int} {P : List (List Int)} (h : KOK K P) {v j : Nat} (hj : j < 100000) (hp : P[j]? = some (List.replicate 128 (v : Int))) : KOK (K.set v ((j : Int) + 1)) P := by
  refine ⟨by simp [h.1], fun u z hz => ?_⟩
  rw [List.getElem?_set] at hz
  split at hz
  · rename_i huv
    subst huv
    split at hz
    · injection hz with hz
      exact .inr ⟨j, hz.symm, hj, hp⟩
    · cases hz
  · exact h.2 u z hz
theorem kcells_set (K : List Int) (v : Nat) (z : Int) : (kcells K).setIfInBounds v (.int .i64 z) = kcells (K.set v z) := by
  apply Array.toList_inj.1
  simp only [kcells, Array.toList_setIfInBounds]
  exact ints_set _ _ _ _
theorem kcells_get (K : List Int) (v : Nat) : (kcells K)[v]? = (K[v]?).map (Value.int .i64) := by simp [kcells, ints]
/-- no page yet -/
def kz : Array Value := kcells (List.replicate 256 0)
theorem kz_ok : KOK (List.replicate 256 0) [] := ⟨List.length_replicate, fun v z hz => .inl (by rw [List.getElem?_replicate] at hz; split at hz <;> simp_all)⟩

theorem blk_new (w : World) (t : TypeId) (cs : Array Value) (g : Nat) (hg : g = w.heap.size) : Blk (w.alloc (.cells cs t)) g t cs := by subst hg; exact heap_alloc_new w _

theorem RG.drop {w : World} {g n : Nat} {R : List G} (h : RG w g 0 n R) {k : Nat} (hk : k ≤ n) : RG w g (k * 3) (n - k) (R.drop k) := by
  obtain ⟨hl, hc⟩ := h
  refine ⟨by simp [hl], fun j hj => ?_⟩
  have hj' : k + j < R.length := by simp at hj; omega
  have := hc (k + j) hj'
  rw [List.getElem_drop]
  rw [show k * 3 + j * 3 = 0 + (k + j) * 3 from by omega]
  exact this
theorem RG.below {w w' : World} {g q n : Nat} {R : List G} (h : RG w g q n R) {B : Nat} (hb : Below B w w') (hg : g < B) : RG w' g q n R :=
  ⟨h.1, fun j hj => by
    obtain ⟨h1, h2, h3⟩ := h.2 j hj
    exact ⟨(hb.cell (p := ⟨g, _, none⟩) hg).trans h1, (hb.cell (p := ⟨g, _, none⟩) hg).trans h2, (hb.cell (p := ⟨g, _, none⟩) hg).trans h3⟩⟩
theorem rising_drop {last : Int} {R : List G} (h : Rising last R) (k : Nat) : ∃ l, Rising l (R.drop k) := by
  induction k generalizing last R with
  | zero => exact ⟨last, h⟩
  | succ k ih =>
    cases R with
    | nil => exact ⟨last, h⟩
    | cons x r => exact ih h.2.2.2.2.2.2
theorem pageAt_drop {R : List G} {o a : Int} {k : Nat} (hk : k ≤ R.length) (h : ∀ i (hi : i < R.length), i < k → R[i].hi < a) : pageAt (R.drop k) o a = pageAt R o a := by
  unfold pageAt
  refine List.map_congr_left fun i hi => ?_
  exact (find_skip hk fun j hj hjk => by have := h j hj hjk; omega).symm
theorem whole_drop (R : List G) (k : Nat) (a o : Int) : wholeOf (R.drop k) 0 a o = wholeOf R k a o := by
  unfold wholeOf
  simp

theorem index_step {w w3 w4 : World} {B gt b ci g4 c4 : Nat} {j : Int} {Ai : Option Addr} {vp : Value} {idx gs : List Nat} {P : List (List Int)} {K : List Int} (hB : B ≤ gt) (hs : B ≤ w3.heap.size)
    (q5 : Blk w3 gt 60 #[.slice Ai b ci, vp]) (q6 : PS w3 B vp gs P) (q7 : w3.ownsRow B 3 1 (.slice Ai b ci) b (nats idx)) (q8 : Blk w3 (gt + 1) 61 (kcells K)) (q9 : Below B w w3)
    (hg : w3.grownBy w4 (Value.slice Ai b ci).ownBlock) (ho : w4.ownsRow B 3 1 (.slice (some ⟨g4, 0, none⟩) (b + 1) c4) (b + 1) (nats idx ++ [.int .i64 j])) :
    Blk (w4.setCell ⟨gt, 0, none⟩ (.slice (some ⟨g4, 0, none⟩) (b + 1) c4)) gt 60 #[.slice (some ⟨g4, 0, none⟩) (b + 1) c4, vp] ∧
    (w4.setCell ⟨gt, 0, none⟩ (.slice (some ⟨g4, 0, none⟩) (b + 1) c4)).ownsRow B 3 1 (.slice (some ⟨g4, 0, none⟩) (b + 1) c4) (b + 1) (nats idx ++ [.int .i64 j]) ∧
    PS (w4.setCell ⟨gt, 0, none⟩ (.slice (some ⟨g4, 0, none⟩) (b + 1) c4)) B vp gs P ∧ Blk (w4.setCell ⟨gt, 0, none⟩ (.slice (some ⟨g4, 0, none⟩) (b + 1) c4)) (gt + 1) 61 (kcells K) ∧
    Below B w (w4.setCell ⟨gt, 0, none⟩ (.slice (some ⟨g4, 0, none⟩) (b + 1) c4)) := by
  have hT4 : Blk w4 gt 60 #[.slice Ai b ci, vp] := (hg.block gt q5.lt (fun e => Blk.own_ne q5 q7 (by decide) e.symm)).trans q5
  have hF : Fr w3 (w4.setCell ⟨gt, 0, none⟩ (.slice (some ⟨g4, 0, none⟩) (b + 1) c4)) (fun i => i = gt ∨ (Value.slice Ai b ci).ownBlock = some i) :=
    ((Fr.refl w3 _).grown hg (fun k hk _ => .inr hk)).setCell (fun _ => .inl rfl) _
  refine ⟨hT4.set_ 0 _, own_block ho (fun g hg => Below.heap_setCell w4 _ _ g (fun e => Blk.own_ne hT4 ho (by decide) (by rw [hg, e]))), q6.keep hF ?_ ?_, ?_, ?_⟩
  · intro g hg h
    rcases h with rfl | h
    · exact Blk.own_ne q5 q6.rp (by decide) hg
    · exact own_own_ne q7 q6.rp (by decide) h hg
  · intro g hg h
    obtain ⟨i, hi, rfl⟩ := List.getElem_of_mem hg
    have hp := q6.pg i hi
    rcases h with h | h
    · exact (Blk.ne hp q5 (by decide)) h
    · exact Blk.own_ne hp q7 (by decide) h
  · exact (hF.block _ q8.lt (fun h => by
      rcases h with h | h
      · omega
      · exact Blk.own_ne q8 q7 (by decide) h)).trans q8
  · exact q9.trans (hF.below hs (fun i hi => by
      rcases hi with rfl | hi
      · exact hB
      · exact (q7.lt i hi).1))

theorem after_append {wd w4 : World} {B gt b ci vn : Nat} {Ai : Option Addr} {vp : Value} {idx : List Nat} {K : List Int} {z : Int} {o : Obj} (q5 : Blk wd gt 60 #[.slice Ai b ci, vp]) (q7 : wd.ownsRow B 3 1 (.slice Ai b ci) b (nats idx))
    (q8 : Blk wd (gt + 1) 61 (kcells K)) (hz : K[vn]? = some z) (hg0 : (wd.drew.alloc o).grownBy w4 (Value.slice Ai b ci).ownBlock) :
    wd.grownBy w4 (Value.slice Ai b ci).ownBlock ∧ w4.cell? ⟨gt, 0, none⟩ = some (.slice Ai b ci) ∧ w4.frozen? ⟨gt, 0, none⟩ = false ∧ w4.cell? ⟨gt + 1, vn, none⟩ = some (.int .i64 z) := by
  have hg : (wd.alloc o).grownBy w4 (Value.slice Ai b ci).ownBlock := ⟨hg0.os, hg0.tape, hg0.output, hg0.size, hg0.block⟩
  have hg' : wd.grownBy w4 (Value.slice Ai b ci).ownBlock := (World.grownBy_alloc wd _ _).trans hg
  have hT4 : Blk w4 gt 60 #[.slice Ai b ci, vp] := (hg'.block gt q5.lt (fun e => Blk.own_ne q5 q7 (by decide) e.symm)).trans q5
  have hK4 : Blk w4 (gt + 1) 61 (kcells K) := (hg'.block (gt + 1) q8.lt (fun e => Blk.own_ne q8 q7 (by decide) e.symm)).trans q8
  exact ⟨hg', hT4.cell 0, hT4.frozen 0, (hK4.cell vn).trans ((kcells_get K vn).trans (congrArg (Option.map (Value.int .i64)) hz))⟩

theorem nat_one {j : Nat} : ∀ u ∈ [Value.int .i64 (j : Int)], u.oneCell' = true := by
  intro u hu
  rw [List.mem_singleton] at hu
  subst hu
  rfl

theorem wp_call {P : Program} {o : Oper} {a : Act} {w : World} {K : Act → World → Prop} {Q : Exit → Act → World → Prop} (f : FuncId) (args : List Operand) (types : Array TypeId)
    (hop : o.op = .call { callee := .value (.func f), args := args.toArray, argTypes := types }) (vals : List Value) (hv : args.map a.eval = vals)
    (hcall : ∀ (args : Array Value) (w : World), (callFunc f args).run P w = .ok (.enter f args) w)
    (hc : Calls P f vals.toArray w fun e w' => ∃ v, e = .returned v ∧ K (a.put o.dst v) w') : Oper.wp P o a w K Q := by
  unfold Oper.wp
  subst hv
  simp [execOp, hop, resolve, invoke, go_sem, Act.eval, Deferred.ofValue, hcall]
  refine hc.mono ?_
  rintro e w' ⟨v, rfl, hK⟩
  exact hK

theorem slice_from (g n c k q : Nat) (hk : k ≤ n) (hnc : n ≤ c) (hq : (c = k ∧ q = 0) ∨ (¬ c = k ∧ q = k * 3)) (W : World) :
    (Instr.sliceAt 24 (.slice (some ⟨g, 0, none⟩) n c) (some (.int .i64 (k : Int))) none none).run Try.prog W = .ok (.slice (some ⟨g, q, none⟩) (n - k) (c - k)) W := by
  have hu := Try.underlying24
  have h1 : (k : Int) ≤ (n : Int) := by omega
  have h2 : n ≤ c := hnc
  have h3 : k ≤ c := by omega
  rcases hq with ⟨hck, rfl⟩ | ⟨hck, rfl⟩
  · simp [Instr.sliceAt, go_sem, hck, h1]
  · simp [Instr.sliceAt, go_sem, hck, h1]

set_option maxRecDepth 100000 in
set_option maxHeartbeats 16000000 in
theorem build_any (g n c : Nat) (R : List G) (o : Int) (w : World) (h : RG w g 0 n R) (hR : Rising (-1) R) (ho : 0 ≤ o ∧ o ≤ 255) (hn : n ≤ 100000) (hnc : n ≤ c) (hg : g < w.heap.size) :
    Calls Try.prog 20 #[.slice (some ⟨g, 0, none⟩) n c, .int .u8 o] w fun e w' =>
      ∃ (gt : Nat) (vi vp : Value) (idx gs : List Nat) (P : List (List Int)), e = .returned (.tuple #[.pointer (some ⟨gt, 0, none⟩), Value.nilIface]) ∧ w.heap.size ≤ gt ∧ Blk w' gt 60 #[vi, vp] ∧
        w'.ownsRow w.heap.size 3 1 vi 8704 (nats idx) ∧ PS w' w.heap.size vp gs P ∧ Good R o idx P 8704 ∧ Below w.heap.size w w' := by
  obtain ⟨j0, hj, hy0, hy1, hy2⟩ := info_parts infoIx
  have hal : ∀ w : World, (zeroValue 61).run Try.prog w = .ok (.agg kz) w := fun _ => by kernel_rfl
  have HCK := Lib.hid (check_any g n c R w h hR (by omega) hg)
  have HRi := Lib.hid hR
  have HL := Lib.hid h.1
  have HG : Hid (∀ wr, Below w.heap.size w wr → RG wr g 0 n R) := fun wr hb => h.below hb hg
  have HGg := Lib.hid hg
  clear h hR
  go_enter Try.func20, Try.ntmps20
  go_upto_region 6 with (go_at_call 11; (with_reducible refine HCK.out.mono ?_); rintro e w1 ⟨rfl, hb1⟩)
  clear hal
  have hT0 : Blk ((w1.alloc (.cells #[.slice none 0 0, .slice none 0 0] 60)).alloc (.cells kz 61)) w1.heap.size 60 #[.slice none 0 0, .slice none 0 0] := (Blk.new w1 _ _).alloc _
  have hK0 : Blk ((w1.alloc (.cells #[.slice none 0 0, .slice none 0 0] 60)).alloc (.cells kz 61)) (w1.heap.size + 1) 61 kz := blk_new _ _ _ _ (by simp)
  have hB0 : Below w.heap.size w ((w1.alloc (.cells #[.slice none 0 0, .slice none 0 0] 60)).alloc (.cells kz 61)) := (hb1.alloc hb1.size _).alloc (by have := hb1.size; simp; omega) _
  generalize (w1.alloc (.cells #[.slice none 0 0, .slice none 0 0] 60)).alloc (.cells kz 61) = W0 at *
  have hs1 := hb1.size
  clear hb1
  go_wp2
  go_loopw [9, 10] (fun ks at_ wr => ∃ (b k : Nat) (vi vp : Value) (idx gs : List Nat) (P : List (List Int)) (K : List Int), b ≤ 8704 ∧ k ≤ n ∧ at_ = .int .i32 (128 * (b : Int)) ∧ ks = .int .i64 k ∧
      (∀ j (h : j < R.length), j < k → R[j].hi < 128 * (b : Int)) ∧ Blk wr w1.heap.size 60 #[vi, vp] ∧ wr.ownsRow w.heap.size 3 1 vi b (nats idx) ∧ PS wr w.heap.size vp gs P ∧ gs.length ≤ b ∧
      Good R o idx P b ∧ Blk wr (w1.heap.size + 1) 61 (kcells K) ∧ KOK K P ∧ Below w.heap.size w wr)
    (fun _ at_ _ => 1114112 - (intOf at_).toNat)
  case atStart =>
    exact ⟨0, 0, .slice none 0 0, .slice none 0 0, [], [], [], List.replicate 256 0, Nat.zero_le _, Nat.zero_le _, rfl, rfl, fun j _ h => absurd h (by omega), hT0, World.ownsRow_nil _ _ _ _,
      ⟨World.ownsRow_nil _ _ _ _, rfl, fun i h => absurd h (by simp), fun p h => absurd h (by simp), fun p h => absurd h (by simp)⟩, Nat.zero_le _, ⟨rfl, fun b h => absurd h (by omega)⟩, hK0, kz_ok, hB0⟩
  case round =>
    clear hT0 hK0 hB0 HCK
    obtain ⟨b, k, vi, vp, idx, gs, P, K, hb8, hk, rfl, rfl, hs, hT, hI, hP, hgb, hgood, hK, hkok, hb⟩ := hrel
    by_cases hlt : b < 8704
    · obtain ⟨a, ha⟩ : ∃ a : Int, 128 * (b : Int) = a := ⟨_, rfl⟩
      have HA := Lib.hid ha
      have ha0 : 0 ≤ a ∧ a ≤ 1113984 := by omega
      have ha1 : a ≤ 1114111 := by omega
      rw [ha]
      rw [ha] at hs
      clear ha
      have HS := Lib.hid hs
      have HTT := Lib.hid hT
      have HII := Lib.hid hI
      have HPP := Lib.hid hP
      have HKK := Lib.hid hK
      have HKO := Lib.hid hkok
      have HGO := Lib.hid hgood
      clear hs hT hI hP hK hkok hgood
      go_upto_block 2 with (fail)
      go_cut [9] (fun ks wx => ∃ k : Nat, k ≤ n ∧ ks = .int .i64 k ∧ (∀ j (h : j < R.length), j < k → R[j].hi < a) ∧ wx = wr)
      case first =>
        go_wp2_with (fail)
        go_loopw [9] (fun ks wx => ∃ k : Nat, k ≤ n ∧ ks = .int .i64 k ∧ (∀ j (h : j < R.length), j < k → R[j].hi < a) ∧ wx = wr) (fun ks _ => n - (intOf ks).toNat)
        case atStart => exact ⟨k, hk, rfl, HS.out, rfl⟩
        case round =>
          clear HS hk
          obtain ⟨k, hk, rfl, hs, hwx⟩ := hrel
          subst hwx
          have HS := Lib.hid hs
          clear hs
          have HRG := Lib.hid (HG.out wr hb)
          by_cases hkn : k < n
          · have hkl : k < R.length := by rw [HL.out]; exact hkn
            have c1 := ((HRG.out).2 k hkl).2.1
            simp only [Nat.zero_add] at c1
            have HN : Hid (R[k].hi < a → ∀ j (h : j < R.length), j < k + 1 → R[j].hi < a) := fun hh j hj hj2 => by
              by_cases hjk : j < k
              · exact HS.out j hj hjk
              · obtain rfl : j = k := by omega
                exact hh
            have z1 : (k : Int) < (n : Int) := by omega
            generalize R[k].hi = hi at *
            by_cases hh : hi < a
            · have HN2 := Lib.hid (HN.out hh)
              clear HN
              go_wp2
              go_roundw
              case rel => exact ⟨k + 1, by omega, by go_num, HN2.out, by first | rfl | trivial⟩
              case measure => simp [intOf]; omega
            · clear HN
              have d1 : decide (hi < a) = false := by simp; omega
              go_wp2
              all_goals go_meet
              all_goals exact ⟨k, hk, rfl, HS.out, by first | rfl | trivial⟩
          · obtain rfl : k = n := by omega
            go_wp2
            all_goals go_meet
            all_goals exact ⟨k, hk, rfl, HS.out, by first | rfl | trivial⟩
      case rest =>
        clear HS hk
        obtain ⟨k, hk, rfl, hs, hwx⟩ := hcut
        subst hwx
        have HS := Lib.hid hs
        clear hs
        have HRG := Lib.hid (HG.out wc hb)
        obtain ⟨l0, hl0⟩ := rising_drop HRi.out k
        obtain ⟨q, hq⟩ : ∃ q : Nat, (c = k ∧ q = 0) ∨ (¬ c = k ∧ q = k * 3) := by
          by_cases hck : c = k
          · exact ⟨0, .inl ⟨hck, rfl⟩⟩
          · exact ⟨k * 3, .inr ⟨hck, rfl⟩⟩
        have HRQ : Hid (∀ wz, Below w.heap.size w wz → RG wz g q (n - k) (R.drop k)) := by
          intro wz hz
          rcases hq with ⟨h1, rfl⟩ | ⟨h1, rfl⟩
          · have h0 : n - k = 0 := by omega
            have hd : R.drop k = [] := List.drop_eq_nil_of_le (by rw [HL.out]; omega)
            rw [h0, hd]
            exact ⟨rfl, fun j hj => absurd hj (by simp)⟩
          · exact (HG.out wz hz).drop hk
        have hsl : ∀ W : World, (Instr.sliceAt 24 (.slice (some ⟨g, 0, none⟩) n c) (some (.int .i64 (k : Int))) none none).run Try.prog W = .ok (.slice (some ⟨g, q, none⟩) (n - k) (c - k)) W := slice_from g n c k q hk hnc hq
        clear hq
        have HWH := Lib.hid (whole_any g q (n - k) (c - k) (R.drop k) a o _ (HRQ.out wc hb) l0 hl0 (by omega))
        have HFI := Lib.hid (fun (wz : World) (hz : Below w.heap.size w wz) => filled_any g q (n - k) (c - k) (R.drop k) a o wz (HRQ.out wz hz) l0 hl0 (by omega) (by omega) (Nat.lt_of_lt_of_le HGg.out hz.size))
        go_upto_block 4 with (go_at_call 22; (with_reducible refine HWH.out.mono ?_); rintro e w' ⟨rfl, rfl⟩)
        have HWO := Lib.hid (whole_drop R k a o)
        have HPD := Lib.hid (pageAt_drop (o := o) (by rw [HL.out]; exact hk) HS.out)
        have HWB : Hid (wholeB (R.drop k) a o = (wholeOf R k a o).isSome) := by show _ = _; rw [wholeB, HWO.out]
        have HWV : Hid (wholeV (R.drop k) a o = (wholeOf R k a o).getD 0) := by show _ = _; rw [wholeV, HWO.out]
        clear HWH
        have hvi := HTT.out.cell 0
        simp only [List.getElem?_toArray, List.getElem?_cons_zero] at hvi
        obtain ⟨Ai, ci, rfl, hci, _⟩ := own_slice HII.out
        generalize hgt : w1.heap.size = gt at *
        have HPG : Hid (∀ (wz : World) (gp : Nat), Below wc.heap.size wc wz → Blk wz gp 5 (pcells (pageAt (R.drop k) o a)) → wc.heap.size ≤ gp → Calls Try.prog 23 #[.pointer (some ⟨gt, 0, none⟩), .slice (some ⟨gp, 0, none⟩) 128 128] wz fun e w' =>
            ∃ (j : Nat) (vp' : Value) (gs' : List Nat) (P' : List (List Int)), e = .returned (.int .i64 (j : Int)) ∧ j < gs'.length ∧ P'[j]? = some (pageAt R o a) ∧ (∀ (i : Nat) (q : List Int), P[i]? = some q → P'[i]? = some q) ∧ gs'.length ≤ gs.length + 1 ∧
              Blk w' gt 60 #[.slice Ai b ci, vp'] ∧ PS w' w.heap.size vp' gs' P' ∧ w'.ownsRow w.heap.size 3 1 (.slice Ai b ci) b (nats idx) ∧ Blk w' (gt + 1) 61 (kcells K) ∧ Below w.heap.size w w') := by
          intro wz gp hz hp hgp
          have h0 := hb.size
          have h1 := hz.size
          rw [HPD.out] at hp
          have hTz := HTT.out.below hz HTT.out.lt
          have hIz := own_block HII.out fun g hg => hz.block g (HII.out.lt g hg).2
          have hKz := HKK.out.below hz HKK.out.lt
          have hPz := HPP.out.below hz
          refine (page_any gt gp w.heap.size _ vp gs P (pageAt R o a) wz hTz hPz hp (pageAt_length _ _ _) (by omega) (by omega) (by omega)).mono ?_
          rintro e w' ⟨j, vp', gs', P', he, q1, q2, q3, q4, q5, q6, q7⟩
          refine ⟨j, vp', gs', P', he, q1, q2, q3, q4, q5, q6, ?_, ?_, ?_⟩
          · exact own_block hIz fun g hg => q7.block g (hIz.lt g hg).2 (fun h => by
              rcases h with rfl | h
              · exact Blk.own_ne hTz hIz (by decide) hg
              · exact own_own_ne hIz hPz.rp (by decide) hg h)
          · exact (q7.block _ hKz.lt (fun h => by
              rcases h with h | h
              · omega
              · exact Blk.own_ne hKz hPz.rp (by decide) h)).trans hKz
          · exact (hb.trans (hz.mono h0)).trans (q7.below (by omega) (fun i hi => by
              rcases hi with rfl | hi
              · exact hs1
              · exact (hPz.rp.lt i hi).1))
        go_cut [11, 12, 48] (fun s11 _ _ wx => ∃ (vn : Nat) (vp' : Value) (gs' : List Nat) (P' : List (List Int)) (K' : List Int) (j : Nat), s11 = .int .u8 (vn : Int) ∧ vn < 256 ∧ Blk wx gt 60 #[.slice Ai b ci, vp'] ∧ PS wx w.heap.size vp' gs' P' ∧ wx.ownsRow w.heap.size 3 1 (.slice Ai b ci) b (nats idx) ∧
            Blk wx (gt + 1) 61 (kcells K') ∧ K'[vn]? = some ((j : Int) + 1) ∧ j < 100000 ∧ P'[j]? = some (pageAt R o a) ∧ KOK K' P' ∧ (∀ (i : Nat) (q : List Int), P[i]? = some q → P'[i]? = some q) ∧ gs'.length ≤ b + 1 ∧ Below w.heap.size w wx)
        case first =>
          go_upto_region 13 with (fail)
          cases hB : wholeB (R.drop k) a o
          · go_upto_region 14 with (fail)
            have hS0 : wc.drew.cell? ⟨gt, 0, none⟩ = some (.slice Ai b ci) := hvi
            refine region_anyU 17 (fun u => u.cell? ⟨gt, 0, none⟩ = some (.slice Ai b ci)) (by kernel_rfl) ?_
            refine anyU_take 0 (v := ?_) rfl (by kernel_rfl) (fun _ _ _ h => h) hS0 (Or.inl ⟨by rfl, ?_⟩) ?_
            rotate_left
            · (intro u hSu; (try dsimp only at hSu); go_simp; (try with_reducible rfl))
            simp only [Act.put, List.setIfInBounds_toArray]
            refine anyU_take 1 (v := ?_) rfl (by kernel_rfl) (fun _ _ _ h => h) hS0 (Or.inl ⟨by rfl, ?_⟩) ?_
            rotate_left
            · (intro u hSu; (try dsimp only at hSu); go_simp; (try with_reducible rfl))
            simp only [Act.put]
            refine anyU_take 2 (v := ?_) rfl (by kernel_rfl) (fun _ _ _ h => h) hS0 (Or.inl ⟨by rfl, ?_⟩) ?_
            rotate_left
            · (intro u hSu; (try dsimp only at hSu); go_simp; (try with_reducible rfl))
            simp only [Act.put]
            refine anyU_take 3 (v := ?_) rfl (by kernel_rfl) (fun _ _ _ h => h) hS0 (Or.inl ⟨by rfl, ?_⟩) ?_
            rotate_left
            · (intro u hSu; (try dsimp only at hSu); go_simp; (try with_reducible rfl))
            simp only [Act.put]
            refine anyU_take 4 (v := ?_) rfl (by kernel_rfl) (fun _ _ _ h => h) hS0 (Or.inl ⟨by rfl, ?_⟩) ?_
            rotate_left
            · (intro u hSu; (try dsimp only at hSu); go_simp; (try with_reducible rfl))
            simp only [Act.put]
            refine anyU_take 5 (v := ?_) rfl (by kernel_rfl) (fun _ _ _ h => h) hS0 (Or.inl ⟨by rfl, ?_⟩) ?_
            rotate_left
            · (intro u hSu; (try dsimp only at hSu); go_simp; (try with_reducible rfl))
            simp only [Act.put]
            refine anyU_take 6 (v := ?_) rfl (by kernel_rfl) (fun _ _ _ h => h) hS0 (Or.inl ⟨by rfl, ?_⟩) ?_
            rotate_left
            · (intro u hSu; (try dsimp only at hSu); go_simp; (try with_reducible rfl))
            simp only [Act.put]
            refine anyU_take 7 (v := ?_) rfl (by kernel_rfl) (fun _ _ _ h => h) hS0 (Or.inl ⟨by rfl, ?_⟩) ?_
            rotate_left
            · (intro u hSu; (try dsimp only at hSu); go_simp; (try with_reducible rfl))
            simp only [Act.put]
            refine anyU_take 8 (v := ?_) rfl (by kernel_rfl) (fun _ _ _ h => h) hS0 (Or.inl ⟨by rfl, ?_⟩) ?_
            rotate_left
            · (intro u hSu; (try dsimp only at hSu); go_simp; (try with_reducible rfl))
            simp only [Act.put]
            refine anyU_take 9 (v := ?_) rfl (by kernel_rfl) (fun _ _ _ h => h) hS0 (Or.inl ⟨by rfl, ?_⟩) ?_
            rotate_left
            · (intro u hSu; (try dsimp only at hSu); go_simp; (try with_reducible rfl))
            simp only [Act.put]
            refine anyU_take 10 (v := ?_) rfl (by kernel_rfl) (fun _ _ _ h => h) hS0 (Or.inl ⟨by rfl, ?_⟩) ?_
            rotate_left
            · (intro u hSu; (try dsimp only at hSu); go_simp; (try with_reducible rfl))
            simp only [Act.put]
            refine anyU_one 11 rfl (by kernel_rfl) (by rfl) fun KK hKK => ?_
            go_simp
            go_at_call 24
            with_reducible refine (HFI.out _ hb.drew).mono ?_
            rintro e w2 ⟨rfl, hpg, hb2⟩
            have hbc : Below wc.heap.size wc w2 := ((Below.refl _ _).drew).trans hb2
            have hvi2 := (hbc.cell (p := ⟨gt, 0, none⟩) HTT.out.lt).trans hvi
            have hpg2 : Blk w2 wc.heap.size 5 (pcells (pageAt (List.drop k R) o a)) := hpg
            refine hKK _ _ (fun _ => hvi2) ?_
            clear hKK KK
            refine anyU_one 12 rfl (by kernel_rfl) (by rfl) fun KK hKK => ?_
            go_simp
            go_at_call 23
            with_reducible refine (HPG.out w2 wc.heap.size hbc hpg2 (Nat.le_refl _)).mono ?_
            rintro e w3 ⟨j, vp', gs', P', rfl, q1, q2, q3, q4, q5, q6, q7, q8, q9⟩
            have hvi3 : w3.cell? ⟨gt, 0, none⟩ = some (.slice Ai b ci) := q5.cell 0
            have hlt3 := q5.lt
            have hs3 := q9.size
            refine hKK _ _ (fun _ => hvi3) ?_
            clear hKK KK
            refine anyU_one 13 rfl (by kernel_rfl) (by rfl) fun KK hKK => ?_
            go_simp
            refine hKK _ _ (fun _ => (World.cell?_alloc_lt w3 _ ⟨gt, 0, none⟩ hlt3).trans hvi3) ?_
            clear hKK KK
            refine anyU_one 14 rfl (by kernel_rfl) (by rfl) fun KK hKK => ?_
            refine wp_append_lies _ _ _ _ (by rfl) w.heap.size 3 j0 (.int .i64 0) 1 8 Try.underlying57 hj hy0 hy1 hy2 rfl (by omega) (.slice Ai b ci) b (nats idx) (by rfl) (q7.alloc _) ⟨w3.heap.size, 0, none⟩ 1 1 [.int .i64 (j : Int)] (by rfl) rfl (World.news_of_block (cs := #[.int .i64 (j : Int)]) (heap_alloc_new w3 _)) nat_one (by omega) (by unfold maxLen; omega) (by omega) (by simp; omega) (w3.heap.size + 1) (by simp) ?_
            intro g4 c4 w4 hown4 hg4 hat4 hlt4
            have hg4' : w3.grownBy w4 (Value.slice Ai b ci).ownBlock := (World.grownBy_alloc w3 _ _).trans hg4
            clear hg4
            have hT4 : Blk w4 gt 60 #[.slice Ai b ci, vp'] := (hg4'.block gt q5.lt (fun e => Blk.own_ne q5 q7 (by decide) e.symm)).trans q5
            have hvi4 : w4.cell? ⟨gt, 0, none⟩ = some (.slice Ai b ci) := hT4.cell 0
            have hfr4 := hT4.frozen 0
            refine hKK _ _ (fun _ => hvi4) ?_
            clear hKK KK
            refine anyU_take 15 (v := ?_) rfl (by kernel_rfl) (fun _ _ _ h => h) hvi4 (Or.inl ⟨by rfl, ?_⟩) ?_
            rotate_left
            · (intro u hSu; (try dsimp only at hSu); go_simp; (try with_reducible rfl))
            simp only [Act.put, List.setIfInBounds_toArray]
            refine anyU_take 16 (v := ?_) rfl (by kernel_rfl) (fun _ _ _ h => h) hvi4 (Or.inl ⟨by rfl, ?_⟩) ?_
            rotate_left
            · (intro u hSu; (try dsimp only at hSu); go_simp; (try with_reducible rfl))
            simp only [Act.put]
            refine anyU_one 17 rfl (by kernel_rfl) (by rfl) fun KK hKK => ?_
            go_simp
            refine hKK _ _ (fun h => absurd rfl h) ?_
            clear hKK KK
            refine anyU_end (by kernel_rfl) ?_
            all_goals
              obtain ⟨f1, f2, f3, f4, f5⟩ := index_step (by omega) (Nat.le_trans (by omega) hs3) q5 q6 q7 q8 q9 hg4' hown4
              have x1 : IntKind.i32.wrap (a + 128) = a + 128 := by simp [IntKind.wrap, IntKind.signed, IntKind.bits]; omega
              have HF1 := Lib.hid f1
              have HF2 := Lib.hid f2
              have HF3 := Lib.hid f3
              have HF4 := Lib.hid f4
              have HF5 := Lib.hid f5
              have HQ2 := Lib.hid q2
              have HQ3 := Lib.hid q3
              clear f1 f2 f3 f4 f5 q5 q6 q7 q8 q9 hg4' hown4 q2 q3
              subst hgt
              go_wp2
              go_roundw
              case rel =>
                refine ⟨b + 1, k, _, vp', idx ++ [j], gs', P', K, by omega, hk, ?_, rfl, ?_, HF1.out, ?_, HF3.out, by omega, ?_, HF4.out, HKO.out.more HQ3.out, HF5.out⟩
                · have h := HA.out
                  simp only [Value.int.injEq, true_and]
                  omega
                · intro i hi hik
                  have h1 := HS.out i hi hik
                  have h2 := HA.out
                  omega
                · have h := HF2.out
                  simpa [nats] using h
                · exact (HGO.out.more HQ3.out).step (by rw [HA.out]; exact HQ2.out)
              case measure => simp [intOf]; omega
          · -- the block has one value
            obtain ⟨v, hv⟩ : ∃ v, wholeOf R k a o = some v := Option.isSome_iff_exists.1 (HWB.out.symm.trans hB)
            have hwv : wholeV (R.drop k) a o = v := by rw [HWV.out, hv]; rfl
            have hvr := whole_range HRi.out ho hv
            have HPW := Lib.hid (pageAt_whole HRi.out (by rw [HL.out]; exact hk) HS.out hv)
            obtain ⟨vn, hvn⟩ : ∃ vn : Nat, v = (vn : Int) := ⟨v.toNat, by omega⟩
            subst hvn
            rw [hwv]
            have hvn256 : vn < 256 := by omega
            obtain ⟨z, hz⟩ : ∃ z, K[vn]? = some z := ⟨_, List.getElem?_eq_getElem (by rw [HKO.out.1]; exact hvn256)⟩
            have hkc0 : wc.cell? ⟨gt + 1, vn, none⟩ = some (.int .i64 z) := (HKK.out.cell vn).trans ((kcells_get K vn).trans (congrArg (Option.map (Value.int .i64)) hz))
            have hkf := HKK.out.frozen vn
            have HK2 := Lib.hid (HKO.out.2 vn z hz)
            have HZ := Lib.hid hz
            clear HWB HWV hv hB HWO hz
            have y1 : (vn : Int) < 256 := by omega
            by_cases hz0 : z = 0
            · subst hz0
              go_wp2_with (first
                | (go_at_call 24; (with_reducible refine (HFI.out _ hb).mono ?_); rintro e w2 ⟨rfl, hpg, hb2⟩)
                | (go_at_call 23; (with_reducible refine (HPG.out w2 wc.heap.size hb2 hpg (Nat.le_refl _)).mono ?_); rintro e w3 ⟨j, vp', gs', P', rfl, q1, q2, q3, q4, q5, q6, q7, q8, q9⟩; have hkc3 : w3.cell? ⟨gt + 1, vn, none⟩ = some (.int .i64 0) := (q8.cell vn).trans ((kcells_get K vn).trans (congrArg (Option.map (Value.int .i64)) HZ.out)); have hkf3 := q8.frozen vn; have HQ2 := Lib.hid q2; have HQ3 := Lib.hid q3; have HQ5 := Lib.hid q5; have HQ6 := Lib.hid q6; have HQ7 := Lib.hid q7; have HQ8 := Lib.hid q8; have HQ9 := Lib.hid q9; have hj1 : IntKind.i64.wrap (1 + (j : Int)) = (j : Int) + 1 := (by rw [IntWalk.i64_in _ (by omega)]; omega); clear q2 q3 q5 q6 q7 q8 q9))
              all_goals go_meet
              all_goals
                have hF : Fr w3 (w3.setCell ⟨gt + 1, vn, none⟩ (.int .i64 ((j : Int) + 1))) (fun i => i = gt + 1) := (Fr.refl w3 (fun i => i = gt + 1)).setCell (p := ⟨gt + 1, vn, none⟩) (fun _ => rfl) _
                have hp2 : P'[j]? = some (List.replicate 128 (vn : Int)) := by rw [← HPW.out]; exact HQ2.out
                refine ⟨vn, vp', gs', P', K.set vn ((j : Int) + 1), j, rfl, hvn256, HQ5.out.far (p := ⟨gt + 1, vn, none⟩) (by simp) _, HQ6.out.keep hF (fun g hg h => Blk.own_ne HQ8.out HQ6.out.rp (by decide) (by rw [hg, h])) (fun g hg h => ?_),
                  own_block HQ7.out (fun g hg => Below.heap_setCell w3 _ _ g (fun e => Blk.own_ne HQ8.out HQ7.out (by decide) (by rw [hg, e]))), ?_, ?_, by omega, HQ2.out, (HKO.out.more HQ3.out).set (by omega) hp2, HQ3.out, by omega, HQ9.out.setCell (by show _ ≤ gt + 1; omega) _⟩
                · obtain ⟨i, hi, rfl⟩ := List.getElem_of_mem hg
                  exact (Blk.ne (HQ6.out.pg i hi) HQ8.out (by decide)) h
                · have h := HQ8.out.set_ vn (.int .i64 ((j : Int) + 1))
                  rw [kcells_set] at h
                  exact h
                · rw [List.getElem?_set, if_pos rfl, if_pos (by rw [HKO.out.1]; exact hvn256)]
            · have hz1 : (z == 0) = false := by simpa using hz0
              obtain ⟨p, hp1, hp2, hp3⟩ := HK2.out.resolve_left hz0
              have HP1 := Lib.hid hp1
              have HP3 := Lib.hid hp3
              clear hp1 hp3 hz0
              go_wp2
              all_goals go_meet
              all_goals exact ⟨vn, vp, gs, P, K, p, rfl, hvn256, HTT.out, HPP.out, HII.out, HKK.out, by rw [HZ.out, HP1.out], hp2, by rw [HPW.out]; exact HP3.out, HKO.out, fun _ _ h => h, by omega, hb⟩
        case rest =>
          obtain ⟨vn, vp', gs', P', K', j, rfl, hvn256, q5, q6, q7, q8, qz, qj, q2, qk, q3, q4, q9⟩ := hcut
          have y1 : (vn : Int) < 256 := by omega
          have hkc3 : wc.cell? ⟨gt + 1, vn, none⟩ = some (.int .i64 ((j : Int) + 1)) := (q8.cell vn).trans ((kcells_get K' vn).trans (congrArg (Option.map (Value.int .i64)) qz))
          have hvi3 : wc.cell? ⟨gt, 0, none⟩ = some (.slice Ai b ci) := q5.cell 0
          have hs3 := q9.size
          have x2 : IntKind.i64.wrap ((j : Int) + 1 - 1) = (j : Int) := by rw [IntWalk.i64_in _ (by omega)]; omega
          clear HWB HWV HWO HFI HPG HII HTT HPP HKK HKO hb
          go_upto_region 17 with (fail)
          have hlt3 := q8.lt
          have x3 : IntKind.i64.wrap (j : Int) = (j : Int) := IntWalk.i64_in _ (by omega)
          have hS0 : wc.drew.cell? ⟨gt, 0, none⟩ = some (.slice Ai b ci) ∧ wc.drew.cell? ⟨gt + 1, vn, none⟩ = some (.int .i64 ((j : Int) + 1)) := ⟨hvi3, hkc3⟩
          have HQZ := Lib.hid qz
          have HQJ := Lib.hid qj
          have HQ2 := Lib.hid q2
          have HQ3 := Lib.hid q3
          have HQK := Lib.hid qk
          have H6 := Lib.hid q6
          have H9 := Lib.hid q9
          clear qz q2 q3 qk q6 q9
          refine region_anyU 13 (fun u => u.cell? ⟨gt, 0, none⟩ = some (.slice Ai b ci) ∧ u.cell? ⟨gt + 1, vn, none⟩ = some (.int .i64 ((j : Int) + 1))) (by kernel_rfl) ?_
          refine anyU_take 0 (v := ?_) rfl (by kernel_rfl) (fun _ _ _ h => h) hS0 (Or.inl ⟨by rfl, ?_⟩) ?_
          rotate_left
          · (intro u hSu; (try dsimp only at hSu); go_simp; (try with_reducible rfl))
          simp only [Act.put, List.setIfInBounds_toArray]
          refine anyU_take 1 (v := ?_) rfl (by kernel_rfl) (fun _ _ _ h => h) hS0 (Or.inl ⟨by rfl, ?_⟩) ?_
          rotate_left
          · (intro u hSu; (try dsimp only at hSu); go_simp; (try with_reducible rfl))
          simp only [Act.put]
          refine anyU_take 2 (v := ?_) rfl (by kernel_rfl) (fun _ _ _ h => h) hS0 (Or.inl ⟨by rfl, ?_⟩) ?_
          rotate_left
          · (intro u hSu; (try dsimp only at hSu); go_simp; (try with_reducible rfl))
          simp only [Act.put]
          refine anyU_take 3 (v := ?_) rfl (by kernel_rfl) (fun _ _ _ h => h) hS0 (Or.inl ⟨by rfl, ?_⟩) ?_
          rotate_left
          · (intro u hSu; (try dsimp only at hSu); go_simp; (try with_reducible rfl))
          simp only [Act.put]
          refine anyU_take 4 (v := ?_) rfl (by kernel_rfl) (fun _ _ _ h => h) hS0 (Or.inl ⟨by rfl, ?_⟩) ?_
          rotate_left
          · (intro u hSu; (try dsimp only at hSu); go_simp; (try with_reducible rfl))
          simp only [Act.put]
          refine anyU_take 5 (v := ?_) rfl (by kernel_rfl) (fun _ _ _ h => h) hS0 (Or.inl ⟨by rfl, ?_⟩) ?_
          rotate_left
          · (intro u hSu; (try dsimp only at hSu); go_simp; (try with_reducible rfl))
          simp only [Act.put]
          refine anyU_take 6 (v := ?_) rfl (by kernel_rfl) (fun _ _ _ h => h) hS0 (Or.inl ⟨by rfl, ?_⟩) ?_
          rotate_left
          · (intro u hSu; (try dsimp only at hSu); go_simp; (try with_reducible rfl))
          simp only [Act.put]
          refine anyU_take 7 (v := ?_) rfl (by kernel_rfl) (fun _ _ _ h => h) hS0 (Or.inl ⟨by rfl, ?_⟩) ?_
          rotate_left
          · (intro u hSu; (try dsimp only at hSu); go_simp; (try with_reducible rfl))
          simp only [Act.put]
          refine anyU_take 8 (v := ?_) rfl (by kernel_rfl) (fun _ _ _ h => h) hS0 (Or.inl ⟨by rfl, ?_⟩) ?_
          rotate_left
          · (intro u hSu; (try dsimp only at hSu); go_simp; (try with_reducible rfl))
          simp only [Act.put]
          refine anyU_one 9 rfl (by kernel_rfl) (by rfl) fun KK hKK => ?_
          go_simp
          refine hKK _ _ (fun _ => ⟨(World.cell?_alloc_lt wc.drew _ ⟨gt, 0, none⟩ q5.lt).trans hvi3, (World.cell?_alloc_lt wc.drew _ ⟨gt + 1, vn, none⟩ q8.lt).trans hkc3⟩) ?_
          clear hKK KK
          refine anyU_one 10 rfl (by kernel_rfl) (by rfl) fun KK hKK => ?_
          refine wp_append_lies _ _ _ _ (by rfl) w.heap.size 3 j0 (.int .i64 0) 1 8 Try.underlying57 hj hy0 hy1 hy2 rfl (by omega) (.slice Ai b ci) b (nats idx) (by rfl) ((q7.drew).alloc _) ⟨wc.heap.size, 0, none⟩ 1 1 [.int .i64 (j : Int)] (by rfl) rfl (World.news_of_block (cs := #[.int .i64 (j : Int)]) (heap_alloc_new wc.drew _)) nat_one (by omega) (by unfold maxLen; omega) (by omega) (by simp; omega) (wc.heap.size + 1) (by simp) ?_
          intro g4 c4 w4 hown4 hg4 hat4 hlt4
          obtain ⟨hg4', hvi4, hfr4, hkc4⟩ := after_append q5 q7 q8 HQZ.out hg4
          refine hKK _ _ (fun _ => ⟨hvi4, hkc4⟩) ?_
          clear hKK KK
          refine anyU_take 11 (v := ?_) rfl (by kernel_rfl) (fun _ _ _ h => h) ⟨hvi4, hkc4⟩ (Or.inl ⟨by rfl, ?_⟩) ?_
          rotate_left
          · (intro u hSu; (try dsimp only at hSu); go_simp; (try with_reducible rfl))
          simp only [Act.put, List.setIfInBounds_toArray]
          refine anyU_take 12 (v := ?_) rfl (by kernel_rfl) (fun _ _ _ h => h) ⟨hvi4, hkc4⟩ (Or.inl ⟨by rfl, ?_⟩) ?_
          rotate_left
          · (intro u hSu; (try dsimp only at hSu); go_simp; (try with_reducible rfl))
          simp only [Act.put]
          refine anyU_one 13 rfl (by kernel_rfl) (by rfl) fun KK hKK => ?_
          go_simp
          refine hKK _ _ (fun h => absurd rfl h) ?_
          clear hKK KK
          refine anyU_end (by kernel_rfl) ?_
          all_goals
            obtain ⟨f1, f2, f3, f4, f5⟩ := index_step (by omega) hs3 q5 H6.out q7 q8 H9.out hg4' hown4
            have x1 : IntKind.i32.wrap (a + 128) = a + 128 := by simp [IntKind.wrap, IntKind.signed, IntKind.bits]; omega
            have HF1 := Lib.hid f1
            have HF2 := Lib.hid f2
            have HF3 := Lib.hid f3
            have HF4 := Lib.hid f4
            have HF5 := Lib.hid f5
            clear f1 f2 f3 f4 f5 q5 q7 q8 hg4' hown4
            subst hgt
            go_wp2
            go_roundw
            case rel =>
              refine ⟨b + 1, k, _, vp', idx ++ [j], gs', P', K', by omega, hk, ?_, rfl, ?_, HF1.out, ?_, HF3.out, by omega, ?_, HF4.out, HQK.out, HF5.out⟩
              · have h := HA.out
                simp only [Value.int.injEq, true_and]
                omega
              · intro i hi hik
                have h1 := HS.out i hi hik
                have h2 := HA.out
                omega
              · have h := HF2.out
                simpa [nats] using h
              · exact (HGO.out.more HQ3.out).step (by rw [HA.out]; exact HQ2.out)
            case measure => simp [intOf]; omega
    · obtain rfl : b = 8704 := by omega
      go_wp2
      go_ret2
      exact ⟨_, vi, vp, idx, gs, P, rfl, hs1, hT, hI, hP, hgood, hb⟩
end Go.Proofs.Ytpipeemoikdlaaa.tr
