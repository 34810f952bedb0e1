/-
  Layer 4: the table, and what rows and the document's Bidi lay.
-/
import Derived.Test.YtpipeemoikdlaaaTb1
namespace Go.Proofs.Ytpipeemoikdlaaa.tr
open Go.RowKit Go.Great

/-- the table of chapter 4 -/
def tab : List (Int × Int × Int) := [(0, 8, 9), (9, 9, 11), (10, 10, 10), (11, 11, 11), (12, 12, 12), (13, 13, 10), (14, 27, 9), (28, 30, 10), (31, 31, 11), (32, 32, 12), (33, 34, 13), (35, 37, 5), (38, 42, 13), (43, 43, 4), (44, 44, 7), (45, 45, 4), (46, 47, 7), (48, 57, 3), (58, 58, 7), (59, 64, 13), (91, 96, 13), (123, 126, 13), (127, 132, 9), (133, 133, 10), (134, 159, 9), (160, 160, 7), (161, 161, 13), (162, 165, 5), (166, 169, 13), (171, 172, 13), (173, 173, 9), (174, 175, 13), (176, 177, 5), (178, 179, 3), (180, 180, 13), (182, 184, 13), (185, 185, 3), (187, 191, 13), (215, 215, 13), (247, 247, 13), (768, 879, 8), (1155, 1161, 8), (1424, 1424, 1), (1425, 1469, 8), (1470, 1470, 1), (1471, 1471, 8), (1472, 1472, 1), (1473, 1474, 8), (1475, 1475, 1), (1476, 1477, 8), (1478, 1478, 1), (1479, 1479, 8), (1480, 1535, 1), (1536, 1541, 6), (1542, 1543, 13), (1544, 1544, 2), (1545, 1546, 5), (1547, 1547, 2), (1548, 1548, 7), (1549, 1549, 2), (1550, 1551, 13), (1552, 1562, 8), (1563, 1610, 2), (1611, 1631, 8), (1632, 1641, 6), (1642, 1642, 5), (1643, 1644, 6), (1645, 1647, 2), (1648, 1648, 8), (1649, 1749, 2), (1750, 1756, 8), (1757, 1757, 6), (1758, 1758, 13), (1759, 1764, 8), (1765, 1766, 2), (1767, 1768, 8), (1769, 1769, 13), (1770, 1773, 8), (1774, 1775, 2), (1776, 1785, 3), (1786, 1808, 2), (1809, 1809, 8), (1810, 1839, 2), (1840, 1866, 8), (1867, 1957, 2), (1958, 1968, 8), (1969, 1983, 2), (1984, 2026, 1), (2027, 2035, 8), (2036, 2037, 1), (2038, 2041, 13), (2042, 2143, 1), (2144, 2249, 2), (2250, 2273, 8), (2274, 2274, 6), (2275, 2306, 8), (2364, 2364, 8), (2369, 2376, 8), (2381, 2381, 8), (3633, 3633, 8), (3636, 3642, 8), (3647, 3647, 5), (3655, 3662, 8), (8192, 8202, 12), (8203, 8205, 9), (8207, 8207, 1), (8208, 8231, 13), (8232, 8232, 12), (8233, 8233, 10), (8234, 8234, 14), (8235, 8235, 16), (8236, 8236, 18), (8237, 8237, 15), (8238, 8238, 17), (8239, 8239, 7), (8240, 8244, 5), (8245, 8259, 13), (8260, 8260, 7), (8261, 8286, 13), (8287, 8287, 12), (8288, 8293, 9), (8294, 8294, 19), (8295, 8295, 20), (8296, 8296, 21), (8297, 8297, 22), (8298, 8303, 9), (8304, 8304, 3), (8308, 8313, 3), (8314, 8315, 4), (8316, 8318, 13), (8320, 8329, 3), (8330, 8331, 4), (8332, 8334, 13), (8352, 8399, 5), (8400, 8432, 8), (8592, 8721, 13), (8722, 8722, 4), (8723, 8723, 5), (8724, 9013, 13), (9083, 9108, 13), (9312, 9351, 13), (9352, 9371, 3), (9472, 10239, 13), (10496, 11263, 13), (12288, 12288, 12), (12289, 12292, 13), (12296, 12320, 13), (12330, 12333, 8), (12336, 12336, 13), (64285, 64285, 1), (64286, 64286, 8), (64287, 64296, 1), (64297, 64297, 4), (64298, 64335, 1), (64336, 64975, 2), (64976, 65007, 9), (65008, 65023, 2), (65024, 65039, 8), (65056, 65071, 8), (65104, 65104, 7), (65106, 65106, 7), (65109, 65109, 7), (65113, 65118, 13), (65136, 65278, 2), (65279, 65279, 9), (65281, 65282, 13), (65283, 65285, 5), (65286, 65290, 13), (65291, 65291, 4), (65292, 65292, 7), (65293, 65293, 4), (65294, 65295, 7), (65296, 65305, 3), (65306, 65306, 7), (65307, 65312, 13), (65339, 65344, 13), (65371, 65381, 13), (67584, 69631, 1), (120782, 120831, 3), (124928, 125135, 1), (125136, 125142, 8), (125143, 126063, 1), (126064, 126719, 2), (126720, 126975, 1), (127744, 129791, 13), (917504, 917759, 9), (917760, 917999, 8), (918000, 921599, 9)]
theorem tab_length : tab.length = 188 := by kernel_rfl

set_option maxRecDepth 1000000 in
set_option maxHeartbeats 8000000 in
theorem rows_any (w : World) : Calls Try.prog 18 #[] w fun e w' => e = .returned (.slice (some ⟨w.heap.size, 0, none⟩) 188 188) ∧ w' = w.alloc (.cells (tcells .i32 tab).toArray 47) := by
  refine calls_of_wp Try.func18 rfl ?_
  apply wp_seq_k
  intro K0 hK0
  apply wp_region_lit
  refine wpList_assign _ _ rfl ?_
  refine wpList_nil ?_
  refine hK0 _ _ ?_
  refine wp_anyFrame 190 (by as_aux_lemma => kernel_rfl) rfl fun a hs hd => ?_
  clear hK0 K0
  apply wp_seq_k
  intro K1 hK1
  apply wp_region_lit
  refine wpList_table 45 47 .i32 tab _ _ (fun _ _ _ => by as_aux_lemma => kernel_rfl) Try.underlying45 (by as_aux_lemma => kernel_rfl) (by as_aux_lemma => kernel_rfl) (by rw [tab_length]; omega) (by rw [tab_length]; omega) (by as_aux_lemma => kernel_rfl) (by rw [hs, tab_length]) fun a' hs' hd' he => ?_
  refine hK1 _ _ ?_
  refine wp_ret ?_
  refine bodyPost_ret (results_tmp rfl _ _ _) (by rw [hd', hd]) ?_
  have h0 : a'.tmps.getD 0 undef = .slice (some ⟨w.heap.size, 0, none⟩) 188 188 := by rw [tab_length] at he; exact he
  exact ⟨by rw [h0], rfl⟩

set_option maxRecDepth 1000000 in
set_option maxHeartbeats 8000000 in
theorem bidi_any (w : World) : Calls Try.prog 10 #[] w fun e w' => e = .returned (.slice (some ⟨w.heap.size, 0, none⟩) 188 188) ∧ w' = w.alloc (.cells (tcells .i64 tab).toArray 33) := by
  refine calls_of_wp Try.func10 rfl ?_
  apply wp_seq_k
  intro K0 hK0
  apply wp_region_lit
  refine wpList_assign _ _ rfl ?_
  refine wpList_nil ?_
  refine hK0 _ _ ?_
  refine wp_anyFrame 190 (by as_aux_lemma => kernel_rfl) rfl fun a hs hd => ?_
  clear hK0 K0
  apply wp_seq_k
  intro K1 hK1
  apply wp_region_lit
  refine wpList_table 26 33 .i64 tab _ _ (fun _ _ _ => by as_aux_lemma => kernel_rfl) Try.underlying26 (by as_aux_lemma => kernel_rfl) (by as_aux_lemma => kernel_rfl) (by rw [tab_length]; omega) (by rw [tab_length]; omega) (by as_aux_lemma => kernel_rfl) (by rw [hs, tab_length]) fun a' hs' hd' he => ?_
  refine hK1 _ _ ?_
  refine wp_ret ?_
  refine bodyPost_ret (results_tmp rfl _ _ _) (by rw [hd', hd]) ?_
  have h0 : a'.tmps.getD 0 undef = .slice (some ⟨w.heap.size, 0, none⟩) 188 188 := by rw [tab_length] at he; exact he
  exact ⟨by rw [h0], rfl⟩
end Go.Proofs.Ytpipeemoikdlaaa.tr
