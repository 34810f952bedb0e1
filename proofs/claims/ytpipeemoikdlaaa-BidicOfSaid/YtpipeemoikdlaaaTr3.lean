/-
  The trie: its state in memory; the contracts of page and Check over the program.
-/
import Derived.Test.YtpipeemoikdlaaaTr2
namespace Go.Proofs.Ytpipeemoikdlaaa.tr
open Go.RowKit

theorem infoPg : (Try.prog.info? 65).map (fun i => (i.zero, i.size, i.bytes)) = some (some (.slice none 0 0), 1, 24) := by kernel_rfl
theorem infoIx : (Try.prog.info? 3).map (fun i => (i.zero, i.size, i.bytes)) = some (some (.int .i64 0), 1, 8) := by kernel_rfl

/-- a page's slice -/
def hd (g : Nat) : Value := .slice (some ⟨g, 0, none⟩) 128 128

/-- all blocks but some stand as they did -/
structure Fr (w w' : World) (S : Nat → Prop) : Prop where
  os : w'.os = w.os
  tape : w'.tape = w.tape
  output : w'.output = w.output
  size : w.heap.size ≤ w'.heap.size
  block : ∀ i, i < w.heap.size → ¬ S i → w'.heap[i]? = w.heap[i]?
theorem Fr.refl (w : World) (S : Nat → Prop) : Fr w w S := ⟨rfl, rfl, rfl, Nat.le_refl _, fun _ _ _ => rfl⟩
theorem Fr.of_below {w w' : World} (S : Nat → Prop) (h : Below w.heap.size w w') : Fr w w' S := ⟨h.os, h.tape, h.output, h.size, fun i hi _ => h.block i hi⟩
theorem Fr.grown {w a b : World} {S : Nat → Prop} {row : Option Nat} (h : Fr w a S) (hg : a.grownBy b row) (hr : ∀ k, row = some k → k < w.heap.size → S k) : Fr w b S :=
  ⟨hg.os.trans h.os, hg.tape.trans h.tape, hg.output.trans h.output, Nat.le_trans h.size hg.size, fun i hi hS => (hg.block i (Nat.lt_of_lt_of_le hi h.size) (fun e => hS (hr i e.symm hi))).trans (h.block i hi hS)⟩
theorem Fr.setCell {w a : World} {S : Nat → Prop} (h : Fr w a S) {p : Addr} (hp : p.block < w.heap.size → S p.block) (u : Value) : Fr w (a.setCell p u) S :=
  ⟨h.os, h.tape, h.output, by simpa [World.setCell] using h.size, fun i hi hS => (Below.heap_setCell a p u i (fun e => hS (by subst e; exact hp hi))).trans (h.block i hi hS)⟩
theorem Fr.below {w w' : World} {S : Nat → Prop} (h : Fr w w' S) {B : Nat} (hB : B ≤ w.heap.size) (hS : ∀ i, S i → B ≤ i) : Below B w w' :=
  ⟨h.os, h.tape, h.output, h.size, fun i hi => h.block i (by omega) (fun e => by have := hS i e; omega)⟩

/-- the pages of a trie in memory -/
structure PS (w : World) (base : Nat) (vp : Value) (gs : List Nat) (P : List (List Int)) : Prop where
  rp : w.ownsRow base 65 1 vp gs.length (gs.map hd)
  gl : P.length = gs.length
  pg : ∀ i (h : i < gs.length), Blk w gs[i] 5 (pcells (P.getD i []))
  pl : ∀ p ∈ P, p.length = 128
  bg : ∀ g ∈ gs, base ≤ g

theorem PS.keep {w w' : World} {base : Nat} {vp : Value} {gs : List Nat} {P : List (List Int)} (h : PS w base vp gs P) {S : Nat → Prop} (hf : Fr w w' S) (hr : ∀ g, vp.ownBlock = some g → ¬ S g) (hp : ∀ g ∈ gs, ¬ S g) : PS w' base vp gs P :=
  ⟨own_block h.rp (fun g hg => hf.block g (h.rp.lt g hg).2 (hr g hg)), h.gl, fun i hi => (hf.block _ (h.pg i hi).lt (hp _ (List.getElem_mem hi))).trans (h.pg i hi), h.pl, h.bg⟩
theorem PS.below {w w' : World} {base : Nat} {vp : Value} {gs : List Nat} {P : List (List Int)} (h : PS w base vp gs P) (hb : Below w.heap.size w w') : PS w' base vp gs P :=
  h.keep (Fr.of_below (fun _ => False) hb) (fun _ _ e => e) (fun _ _ e => e)

set_option maxRecDepth 100000 in
set_option maxHeartbeats 8000000 in
theorem page_any (gt gp base : Nat) (vi vp : Value) (gs : List Nat) (P : List (List Int)) (p : List Int) (w : World) (ht : Blk w gt 60 #[vi, vp]) (hS : PS w base vp gs P) (hp : Blk w gp 5 (pcells p)) (hpl : p.length = 128)
    (hgp : base ≤ gp) (_ : base ≤ w.heap.size) (hm : gs.length ≤ 100000) :
    Calls Try.prog 23 #[.pointer (some ⟨gt, 0, none⟩), .slice (some ⟨gp, 0, none⟩) 128 128] w fun e w' =>
      ∃ (j : Nat) (vp' : Value) (gs' : List Nat) (P' : List (List Int)), e = .returned (.int .i64 (j : Int)) ∧ j < gs'.length ∧ P'[j]? = some p ∧ (∀ (i : Nat) (q : List Int), P[i]? = some q → P'[i]? = some q) ∧ gs'.length ≤ gs.length + 1 ∧
        Blk w' gt 60 #[vi, vp'] ∧ PS w' base vp' gs' P' ∧ Fr w w' (fun i => i = gt ∨ vp.ownBlock = some i) := by
  obtain ⟨i0, hi, hz0, hz1, hz2⟩ := info_parts infoPg
  obtain ⟨A, c, rfl, hc, hl⟩ := own_slice hS.rp
  have ct := ht.cell 1
  simp only [List.getElem?_toArray, List.getElem?_cons_zero, List.getElem?_cons_succ] at ct
  have hml : gs.length ≤ c := hc
  go_enter Try.func23, Try.ntmps23
  go_wp2
  go_loopw [12] (fun i wr => ∃ k : Nat, k ≤ gs.length ∧ i = .int .i64 k ∧ Below w.heap.size w wr) (fun i _ => gs.length - (intOf i).toNat)
  case atStart => exact ⟨0, Nat.zero_le _, rfl, Below.refl _ _⟩
  case round =>
    obtain ⟨k, hk, rfl, hb⟩ := hrel
    by_cases hlt : k < gs.length
    · obtain ⟨ad, rfl, hck⟩ := (hl.same hb).cell_ (show (gs.map hd)[k]? = some (.slice (some ⟨gs[k], 0, none⟩) 128 128) from by simp [hlt, hd])
      have HEq := Lib.hid (equal_any gp gs[k] p (P.getD k []) wr (hp.below hb hp.lt) ((hS.pg k hlt).below hb (hS.pg k hlt).lt) hpl (hS.pl _ (by
        rw [List.getD_eq_getElem?_getD, List.getElem?_eq_getElem (by rw [hS.gl]; exact hlt)]; exact List.getElem_mem _)))
      have HP : Hid (P[k]? = some (P.getD k [])) := by show _ = _; rw [List.getD_eq_getElem?_getD, List.getElem?_eq_getElem (by rw [hS.gl]; exact hlt)]; rfl
      have HFin : Hid (p = P.getD k [] → ∀ wz, Below w.heap.size w wz → ∃ (j : Nat) (vp' : Value) (gs' : List Nat) (P' : List (List Int)), Ending.returned (.int .i64 (k : Int)) = .returned (.int .i64 (j : Int)) ∧ j < gs'.length ∧ P'[j]? = some p ∧ (∀ (i : Nat) (q : List Int), P[i]? = some q → P'[i]? = some q) ∧ gs'.length ≤ gs.length + 1 ∧
          Blk wz gt 60 #[vi, vp'] ∧ PS wz base vp' gs' P' ∧ Fr w wz (fun i => i = gt ∨ (Value.slice (some ad) gs.length c).ownBlock = some i)) := fun hq wz hz =>
        ⟨k, _, gs, P, rfl, hlt, by rw [HP.out, hq], fun _ _ h => h, by omega, ht.below hz ht.lt, hS.below hz, Fr.of_below _ hz⟩
      have y1 : (k : Int) < (gs.length : Int) := by omega
      have HB := Lib.hid hb
      clear hl hS ht hp HP
      generalize P.getD k [] = q at *
      generalize gs[k] = gk at *
      generalize hmm : gs.length = m at *
      go_upto_region 4 with (fail)
      go_upto_if 19 with (go_at_call 25; (with_reducible refine HEq.out.mono ?_); rintro e w2 ⟨b, rfl, hbq, hb2⟩)
      have hB2 := HB.out.trans (hb2.mono HB.out.size)
      clear hb2
      cases b
      · clear hbq
        go_wp2
        go_roundw
        case rel => exact ⟨k + 1, by omega, by go_num, hB2⟩
        case measure => simp [intOf]; omega
      · have hpq := Lib.hid (hbq rfl)
        clear hbq
        go_wp2
        go_ret
        rw [hmm]
        exact HFin.out hpq.out _ hB2
    · obtain rfl : k = gs.length := by omega
      have ht2 := ht.below hb ht.lt
      have hS2 := hS.below hb
      have hp2 := hp.below hb hp.lt
      have ct2 := ht2.cell 1
      simp only [List.getElem?_toArray, List.getElem?_cons_zero, List.getElem?_cons_succ] at ct2
      have hs := hb.size
      have hgpn : gp < wr.heap.size := hp2.lt
      have HSS := Lib.hid hS2
      have HT := Lib.hid ht2
      have HP2 := Lib.hid hp2
      have HBl := Lib.hid hb
      have hrp := hS2.rp
      clear hl hS hS2 ht ht2 hp hp2 hb ct
      generalize hmm : gs.length = m at *
      go_wp2_with (at_builtin; refine wpList_append_one rfl (.tmp 26) (.tmp 28) 58 rfl base wr base 65 i0 (.slice none 0 0) 24 Try.underlying58 hi hz0 hz1 hz2 rfl _ _ _ rfl hrp _ _ rfl _ rfl (by simp) (Below.refl _ _) (by omega) (Nat.le_refl _) (by omega) (by omega) (by omega) ?_; intro v' w1 hown1 hb1 hg1 u2; clear u2; obtain ⟨A1, c1, rfl, hc1, _⟩ := own_slice hown1; have hcell1 : w1.cell? ⟨gt, 1, none⟩ = some (.slice A m c) := ((World.cell?_of_block (a := ⟨gt, 1, none⟩) (hg1.block gt HT.out.lt (fun e => Blk.own_ne HT.out hrp (by decide) e.symm))).trans ct2); have hfro1 : w1.frozen? ⟨gt, 1, none⟩ = false := Blk.frozen (cs := #[vi, .slice A m c]) (t := 60) ((hg1.block gt HT.out.lt (fun e => Blk.own_ne HT.out hrp (by decide) e.symm)).trans HT.out) 1)
      go_ret
      have hg : wr.grownBy w1 (Value.slice A m c).ownBlock := hg1
      have hT1 : Blk w1 gt 60 #[vi, .slice A m c] := (hg.block gt HT.out.lt (fun e => Blk.own_ne HT.out hrp (by decide) e.symm)).trans HT.out
      have hT2 : Blk (w1.setCell ⟨gt, 1, none⟩ (.slice A1 (m + 1) c1)) gt 60 #[vi, .slice A1 (m + 1) c1] := hT1.set_ 1 _
      have hO2 : (w1.setCell ⟨gt, 1, none⟩ (.slice A1 (m + 1) c1)).ownsRow base 65 1 (.slice A1 (m + 1) c1) (m + 1) (gs.map hd ++ [.slice (some ⟨gp, 0, none⟩) 128 128]) :=
        own_block hown1 (fun g hg => Below.heap_setCell w1 _ _ g (fun e => Blk.own_ne hT1 hown1 (by decide) (by rw [hg, e])))
      have pageKeep : ∀ (g : Nat) (q : List Int), Blk wr g 5 (pcells q) → Blk (w1.setCell ⟨gt, 1, none⟩ (.slice A1 (m + 1) c1)) g 5 (pcells q) := fun g q hq =>
        have h1 : Blk w1 g 5 (pcells q) := (hg.block g hq.lt (fun e => Blk.own_ne hq hrp (by decide) e.symm)).trans hq
        h1.far (p := ⟨gt, 1, none⟩) (Blk.ne h1 hT1 (by decide)) _
      refine ⟨m, .slice A1 (m + 1) c1, gs ++ [gp], P ++ [p], by first | rfl | exact ret_int (by omega), by simp [hmm], by rw [List.getElem?_append_right (by rw [HSS.out.gl]; omega), HSS.out.gl, hmm, Nat.sub_self]; rfl, ?_, by simp [hmm], hT2, ?_, ?_⟩
      · intro i q hq
        rw [List.getElem?_append_left (List.getElem?_eq_some_iff.1 hq).1]
        exact hq
      · refine ⟨?_, by simp [HSS.out.gl], ?_, ?_, ?_⟩
        · rw [List.length_append, hmm, List.map_append]
          exact hO2
        · intro i hi'
          by_cases him : i < gs.length
          · rw [List.getElem_append_left him, List.getD_eq_getElem?_getD, List.getElem?_append_left (by rw [HSS.out.gl]; exact him), ← List.getD_eq_getElem?_getD]
            exact pageKeep _ _ (HSS.out.pg i him)
          · have hie : i = gs.length := by simp at hi'; omega
            subst hie
            rw [List.getElem_append_right (Nat.le_refl _), List.getD_eq_getElem?_getD, List.getElem?_append_right (by rw [HSS.out.gl]; exact Nat.le_refl _)]
            simp only [HSS.out.gl, Nat.sub_self, List.getElem_cons_zero, List.getElem?_cons_zero, Option.getD_some]
            exact pageKeep _ _ HP2.out
        · intro q hq
          rw [List.mem_append, List.mem_singleton] at hq
          rcases hq with hq | rfl
          · exact HSS.out.pl q hq
          · exact hpl
        · intro g hg'
          rw [List.mem_append, List.mem_singleton] at hg'
          rcases hg' with hg' | rfl
          · exact HSS.out.bg g hg'
          · exact hgp
      · rw [hmm]
        exact ((Fr.of_below _ HBl.out).grown hg (fun k hk _ => .inr hk)).setCell (fun _ => .inl rfl) _

set_option maxHeartbeats 4000000 in
theorem check_any (g n c : Nat) (R : List G) (w : World) (h : RG w g 0 n R) (hR : Rising (-1) R) (hn : n ≤ 1048576) (hg : g < w.heap.size) :
    Calls Try.prog 11 #[.slice (some ⟨g, 0, none⟩) n c] w fun e w' => e = .returned Value.nilIface ∧ Below w.heap.size w w' := by
  obtain ⟨hl, hc⟩ := h
  go_enter Try.func11, Try.ntmps11
  go_wp2
  go_loopw [3, 8] (fun la i wr => ∃ (k : Nat) (last : Int), k ≤ n ∧ i = .int .i64 k ∧ la = .int .i32 last ∧ (∀ h : k < R.length, last < R[k].lo) ∧ Below w.heap.size w wr) (fun _ i _ => n - (intOf i).toNat)
  case atStart => exact ⟨0, -1, Nat.zero_le _, rfl, rfl, fun h => (hR.at h).1, Below.refl _ _⟩
  case round =>
    obtain ⟨k, last, hk, rfl, rfl, hlast, hb⟩ := hrel
    by_cases hlt : k < n
    · have hkl : k < R.length := by omega
      obtain ⟨c0, c1, c2⟩ := hc k hkl
      replace c0 := (hb.cell (p := ⟨g, _, none⟩) hg).trans c0
      replace c1 := (hb.cell (p := ⟨g, _, none⟩) hg).trans c1
      replace c2 := (hb.cell (p := ⟨g, _, none⟩) hg).trans c2
      simp only [Nat.zero_add] at c0 c1 c2
      obtain ⟨r1, r2, r3, r4, r5, r6⟩ := hR.at hkl
      have r7 := hlast hkl
      have HN : Hid (∀ h : k + 1 < R.length, (R[k]'hkl).hi < R[k + 1].lo) := fun h => hR.step h
      clear hc hR hlast
      generalize R[k] = x at *
      obtain ⟨lo, hi, v⟩ := x
      simp only at *
      have y1 : (k : Int) < (n : Int) := by omega
      go_upto_region 5 with (fail)
      have hU := Blk.new wr 32 #[.int .i32 lo, .int .i32 hi, .int .u8 v]
      have hb1 := hb.alloc hb.size (.cells #[.int .i32 lo, .int .i32 hi, .int .u8 v] 32)
      have u0 := hU.cell 0
      have u1 := hU.cell 1
      simp only [List.getElem?_toArray, List.getElem?_cons_zero, List.getElem?_cons_succ] at u0 u1
      clear hU hb c0 c1 c2
      generalize wr.alloc (.cells #[.int .i32 lo, .int .i32 hi, .int .u8 v] 32) = W1 at *
      generalize wr.heap.size = bu at *
      have d0 : decide (lo < 0) = false := by simp; omega
      have d1 : decide (1114111 < hi) = false := by simp; omega
      have d2 : decide (hi < lo) = false := by simp; omega
      have d3 : decide (lo ≤ last) = false := by simp; omega
      go_wp2
      go_roundw
      case rel => exact ⟨k + 1, hi, by omega, by go_num, rfl, HN.out, hb1⟩
      case measure => simp [intOf]; omega
    · obtain rfl : k = n := by omega
      clear hc hR
      go_wp2
      go_ret
      exact ⟨rfl, hb⟩
end Go.Proofs.Ytpipeemoikdlaaa.tr
