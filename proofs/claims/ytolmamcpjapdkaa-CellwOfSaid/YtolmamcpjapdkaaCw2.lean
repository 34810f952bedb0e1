/-
  Layer 4: the table, and what rows and the document's Bidi lay.
-/
import Derived.Test.YtolmamcpjapdkaaTb1
namespace Go.Proofs.Ytolmamcpjapdkaa.cw
open Go.RowKit tr Go.Great

/-- the table of chapter 4 -/
def tab : List (Int × Int × Int) := [(0, 31, 0), (127, 159, 0), (173, 173, 0), (768, 879, 0), (1155, 1161, 0), (1425, 1469, 0), (1471, 1471, 0), (1473, 1474, 0), (1476, 1477, 0), (1479, 1479, 0), (1536, 1541, 0), (1552, 1562, 0), (1564, 1564, 0), (1611, 1631, 0), (1648, 1648, 0), (1750, 1757, 0), (1759, 1764, 0), (1767, 1768, 0), (1770, 1773, 0), (1809, 1809, 0), (1840, 1866, 0), (1958, 1968, 0), (2027, 2035, 0), (2250, 2306, 0), (2362, 2362, 0), (2364, 2364, 0), (2369, 2376, 0), (2381, 2381, 0), (3633, 3633, 0), (3636, 3642, 0), (3655, 3662, 0), (4352, 4447, 2), (4448, 4607, 0), (8203, 8207, 0), (8232, 8238, 0), (8288, 8303, 0), (8400, 8432, 0), (8986, 8987, 2), (9001, 9002, 2), (9200, 9200, 2), (9203, 9203, 2), (9748, 9749, 2), (11904, 12287, 2), (12288, 12329, 2), (12330, 12333, 0), (12334, 12350, 2), (12353, 12440, 2), (12441, 12442, 0), (12443, 13311, 2), (13312, 19903, 2), (19968, 42191, 2), (43360, 43391, 2), (44032, 55203, 2), (63744, 64255, 2), (64286, 64286, 0), (65024, 65039, 0), (65040, 65049, 2), (65056, 65071, 0), (65072, 65135, 2), (65279, 65279, 0), (65281, 65376, 2), (65504, 65510, 2), (127462, 127487, 1), (127744, 128591, 2), (128640, 128767, 2), (129280, 129791, 2), (131072, 262141, 2), (917505, 917631, 0), (917760, 917999, 0)]
theorem tab_length : tab.length = 69 := by kernel_rfl

set_option maxRecDepth 1000000 in
set_option maxHeartbeats 8000000 in
theorem rows_any (w : World) : Calls Try.prog 15 #[] w fun e w' => e = .returned (.slice (some ⟨w.heap.size, 0, none⟩) 69 69) ∧ w' = w.alloc (.cells (tcells .i32 tab).toArray 47) := by
  refine calls_of_wp Try.func15 rfl ?_
  apply wp_seq_k
  intro K0 hK0
  apply wp_region_lit
  refine wpList_assign _ _ rfl ?_
  refine wpList_nil ?_
  refine hK0 _ _ ?_
  refine wp_anyFrame 71 (by as_aux_lemma => kernel_rfl) rfl fun a hs hd => ?_
  clear hK0 K0
  apply wp_seq_k
  intro K1 hK1
  apply wp_region_lit
  refine wpList_table 45 47 .i32 tab _ _ (fun _ _ _ => by as_aux_lemma => kernel_rfl) Try.underlying45 (by as_aux_lemma => kernel_rfl) (by as_aux_lemma => kernel_rfl) (by rw [tab_length]; omega) (by rw [tab_length]; omega) (by as_aux_lemma => kernel_rfl) (by rw [hs, tab_length]) fun a' hs' hd' he => ?_
  refine hK1 _ _ ?_
  refine wp_ret ?_
  refine bodyPost_ret (results_tmp rfl _ _ _) (by rw [hd', hd]) ?_
  have h0 : a'.tmps.getD 0 undef = .slice (some ⟨w.heap.size, 0, none⟩) 69 69 := by rw [tab_length] at he; exact he
  exact ⟨by rw [h0], rfl⟩

set_option maxRecDepth 1000000 in
set_option maxHeartbeats 8000000 in
theorem bidi_any (w : World) : Calls Try.prog 9 #[] w fun e w' => e = .returned (.slice (some ⟨w.heap.size, 0, none⟩) 69 69) ∧ w' = w.alloc (.cells (tcells .i64 tab).toArray 36) := by
  refine calls_of_wp Try.func9 rfl ?_
  apply wp_seq_k
  intro K0 hK0
  apply wp_region_lit
  refine wpList_assign _ _ rfl ?_
  refine wpList_nil ?_
  refine hK0 _ _ ?_
  refine wp_anyFrame 71 (by as_aux_lemma => kernel_rfl) rfl fun a hs hd => ?_
  clear hK0 K0
  apply wp_seq_k
  intro K1 hK1
  apply wp_region_lit
  refine wpList_table 29 36 .i64 tab _ _ (fun _ _ _ => by as_aux_lemma => kernel_rfl) Try.underlying29 (by as_aux_lemma => kernel_rfl) (by as_aux_lemma => kernel_rfl) (by rw [tab_length]; omega) (by rw [tab_length]; omega) (by as_aux_lemma => kernel_rfl) (by rw [hs, tab_length]) fun a' hs' hd' he => ?_
  refine hK1 _ _ ?_
  refine wp_ret ?_
  refine bodyPost_ret (results_tmp rfl _ _ _) (by rw [hd', hd]) ?_
  have h0 : a'.tmps.getD 0 undef = .slice (some ⟨w.heap.size, 0, none⟩) 69 69 := by rw [tab_length] at he; exact he
  exact ⟨by rw [h0], rfl⟩
end Go.Proofs.Ytolmamcpjapdkaa.cw
