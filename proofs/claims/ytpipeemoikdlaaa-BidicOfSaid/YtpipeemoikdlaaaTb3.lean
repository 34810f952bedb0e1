/-
  The trie: the contract of Get over the program.
-/
import Derived.Test.YtpipeemoikdlaaaTr4
namespace Go.Proofs.Ytpipeemoikdlaaa.tr
open Go.RowKit

/-- a trie of ranges in memory -/
def TR (w : World) (gt : Nat) (R : List G) (o : Int) : Prop :=
  ∃ (B : Nat) (vi vp : Value) (idx gs : List Nat) (P : List (List Int)), Blk w gt 60 #[vi, vp] ∧ w.ownsRow B 3 1 vi 8704 (nats idx) ∧ PS w B vp gs P ∧ Good R o idx P 8704
theorem TR.below {w w' : World} {gt : Nat} {R : List G} {o : Int} (h : TR w gt R o) (hb : Below w.heap.size w w') : TR w' gt R o := by
  obtain ⟨B, vi, vp, idx, gs, P, h1, h2, h3, h4⟩ := h
  exact ⟨B, vi, vp, idx, gs, P, h1.below hb h1.lt, own_block h2 (fun g hg => hb.block g (h2.lt g hg).2), h3.below hb, h4⟩

/-- what Get hands back -/
def getV (R : List G) (o r : Int) : Int := if r < 0 ∨ 1114111 < r then 0 else find R r o

set_option maxRecDepth 100000 in
set_option maxHeartbeats 4000000 in
theorem get_any (gt : Nat) (R : List G) (o r : Int) (w : World) (h : TR w gt R o) :
    Calls Try.prog 21 #[.pointer (some ⟨gt, 0, none⟩), .int .i32 r] w fun e w' => e = .returned (.int .u8 (getV R o r)) ∧ Below w.heap.size w w' := by
  by_cases h1 : r < 0
  · clear h
    have e := Lib.hid (show getV R o r = 0 from if_pos (.inl h1))
    go_enter Try.func21, Try.ntmps21
    go_wp2
    go_ret
    exact ⟨ret_int e.out.symm, Below.refl _ _⟩
  by_cases h2 : 1114111 < r
  · clear h
    have e := Lib.hid (show getV R o r = 0 from if_pos (.inr h2))
    have d1 : decide (r < 0) = false := by simp; omega
    go_enter Try.func21, Try.ntmps21
    go_wp2
    all_goals go_ret
    all_goals exact ⟨ret_int e.out.symm, Below.refl _ _⟩
  obtain ⟨rn, rfl⟩ : ∃ rn : Nat, r = (rn : Int) := ⟨r.toNat, by omega⟩
  have hrn : rn ≤ 1114111 := by omega
  obtain ⟨b, hb⟩ : ∃ b, rn / 128 = b := ⟨_, rfl⟩
  obtain ⟨i, hi⟩ : ∃ i, rn % 128 = i := ⟨_, rfl⟩
  have hb8 : b < 8704 := by omega
  have hi8 : i < 128 := by omega
  obtain ⟨B, vi, vp, idx, gs, P, hT, hI, hP, hG⟩ := h
  obtain ⟨p, hp1, hp2⟩ := hG.2 b hb8
  have E : Hid (getV R o (rn : Int) = find R (128 * (b : Int) + (i : Int)) o) := by
    show _ = _
    rw [getV, if_neg (by omega)]
    congr 1
    omega
  have hpl : p < gs.length := by rw [← hP.gl]; exact (List.getElem?_eq_some_iff.1 hp2).1
  have hpg := hP.pg p hpl
  rw [List.getD_eq_getElem?_getD, hp2] at hpg
  have ct0 := hT.cell 0
  have ct1 := hT.cell 1
  simp only [List.getElem?_toArray, List.getElem?_cons_zero, List.getElem?_cons_succ] at ct0 ct1
  obtain ⟨Ai, ci, rfl, hci, hli⟩ := own_slice hI
  obtain ⟨Ap, cp, rfl, hcp, hlp⟩ := own_slice hP.rp
  obtain ⟨adi, rfl, ei⟩ := hli.cell_ (show (nats idx)[b]? = some (.int .i64 (p : Int)) from by simp [nats, hp1])
  obtain ⟨adp, rfl, ep⟩ := hlp.cell_ (show (gs.map hd)[p]? = some (.slice (some ⟨gs[p], 0, none⟩) 128 128) from by simp [hpl, hd])
  have ev := (hpg.cell i).trans ((pcells_get _ i).trans (by rw [Option.getD_some, pageAt_get _ _ _ _ hi8]; first | done | rfl))
  have d0 : decide ((rn : Int) < 0) = false := by simp
  have d1 : decide (1114111 < (rn : Int)) = false := by simp; omega
  have x1 : ((rn : Int).tdiv 128) = (b : Int) := by rw [Int.tdiv_eq_ediv_of_nonneg (by omega)]; omega
  have x2 : ((rn : Int).tmod 128) = (i : Int) := by rw [Int.tmod_eq_emod_of_nonneg (by omega)]; omega
  have x3 : IntKind.i32.wrap (b : Int) = (b : Int) := by simp [IntKind.wrap, IntKind.signed, IntKind.bits]; omega
  have x4 : IntKind.i32.wrap (i : Int) = (i : Int) := by simp [IntKind.wrap, IntKind.signed, IntKind.bits]; omega
  have y1 : (b : Int) < 8704 := by omega
  have y2 : (p : Int) < (gs.length : Int) := by omega
  have y3 : (i : Int) < 128 := by omega
  clear hT hI hP hG hpg hli hlp hp1 hp2 h1 h2 hb hi
  generalize gs[p] = gp at *
  clear hpl
  generalize gs.length = m at *
  generalize find R (128 * (b : Int) + (i : Int)) o = z at *
  go_enter Try.func21, Try.ntmps21
  go_upto_region 3 with (fail)
  go_quiet (fail)
  go_wp2
  go_ret
  exact ⟨ret_int E.out.symm, drawn (Below.refl _ _) _⟩
end Go.Proofs.Ytpipeemoikdlaaa.tr
