/-
  Kinds of classes, where the document's rules tell them apart.
-/
import Derived.Test.YtbobhcffbgnfkaaLr3
namespace Go.Proofs.Ytbobhcffbgnfkaa.lr
open Go.RowKit

theorem kinds5 (a : Int) : ((letterB a) = true ∧ (a == 27) = false ∧ (a == 29) = false ∧ (picB a) = false ∧ (monB a) = false) ∨ ((letterB a) = false ∧ (a == 27) = true ∧ (a == 29) = false ∧ (picB a) = false ∧ (monB a) = false) ∨ ((letterB a) = false ∧ (a == 27) = false ∧ (a == 29) = true ∧ (picB a) = false ∧ (monB a) = true) ∨ ((letterB a) = false ∧ (a == 27) = false ∧ (a == 29) = false ∧ (picB a) = false ∧ (monB a) = true) ∨ ((letterB a) = false ∧ (a == 27) = false ∧ (a == 29) = false ∧ (picB a) = true ∧ (monB a) = false) ∨ ((letterB a) = false ∧ (a == 27) = false ∧ (a == 29) = false ∧ (picB a) = false ∧ (monB a) = false) := by
  rcases (show a = 1 ∨ a = 2 ∨ a = 27 ∨ a = 29 ∨ a = 28 ∨ a = 30 ∨ a = 31 ∨ a = 32 ∨ (¬ a = 1 ∧ ¬ a = 2 ∧ ¬ a = 27 ∧ ¬ a = 29 ∧ ¬ a = 28 ∧ ¬ a = 30 ∧ ¬ a = 31 ∧ ¬ a = 32) from by omega) with rfl | rfl | rfl | rfl | rfl | rfl | rfl | rfl | ⟨n0, n1, n2, n3, n4, n5, n6, n7⟩
  · exact Or.inl ⟨by decide, by decide, by decide, by decide, by decide⟩
  · exact Or.inl ⟨by decide, by decide, by decide, by decide, by decide⟩
  · exact Or.inr (Or.inl ⟨by decide, by decide, by decide, by decide, by decide⟩)
  · exact Or.inr (Or.inr (Or.inl ⟨by decide, by decide, by decide, by decide, by decide⟩))
  · exact Or.inr (Or.inr (Or.inr (Or.inl ⟨by decide, by decide, by decide, by decide, by decide⟩)))
  · exact Or.inr (Or.inr (Or.inr (Or.inr (Or.inl ⟨by decide, by decide, by decide, by decide, by decide⟩))))
  · exact Or.inr (Or.inr (Or.inr (Or.inr (Or.inl ⟨by decide, by decide, by decide, by decide, by decide⟩))))
  · exact Or.inr (Or.inr (Or.inr (Or.inr (Or.inl ⟨by decide, by decide, by decide, by decide, by decide⟩))))
  · exact Or.inr (Or.inr (Or.inr (Or.inr (Or.inr (⟨by first | (simp_all; done) | (simp_all [letterB]; done) | (simp_all [picB]; done) | (simp_all [monB]; done) | (simp_all [korB]; done), by first | (simp_all; done) | (simp_all [letterB]; done) | (simp_all [picB]; done) | (simp_all [monB]; done) | (simp_all [korB]; done), by first | (simp_all; done) | (simp_all [letterB]; done) | (simp_all [picB]; done) | (simp_all [monB]; done) | (simp_all [korB]; done), by first | (simp_all; done) | (simp_all [letterB]; done) | (simp_all [picB]; done) | (simp_all [monB]; done) | (simp_all [korB]; done), by first | (simp_all; done) | (simp_all [letterB]; done) | (simp_all [picB]; done) | (simp_all [monB]; done) | (simp_all [korB]; done)⟩)))))
theorem kinds7 (a : Int) : ((monB a) = true ∧ (a == 21) = false ∧ (a == 17) = false) ∨ ((monB a) = false ∧ (a == 21) = true ∧ (a == 17) = false) ∨ ((monB a) = false ∧ (a == 21) = false ∧ (a == 17) = true) ∨ ((monB a) = false ∧ (a == 21) = false ∧ (a == 17) = false) := by
  rcases (show a = 29 ∨ a = 28 ∨ a = 21 ∨ a = 17 ∨ (¬ a = 29 ∧ ¬ a = 28 ∧ ¬ a = 21 ∧ ¬ a = 17) from by omega) with rfl | rfl | rfl | rfl | ⟨n0, n1, n2, n3⟩
  · exact Or.inl ⟨by decide, by decide, by decide⟩
  · exact Or.inl ⟨by decide, by decide, by decide⟩
  · exact Or.inr (Or.inl ⟨by decide, by decide, by decide⟩)
  · exact Or.inr (Or.inr (Or.inl ⟨by decide, by decide, by decide⟩))
  · exact Or.inr (Or.inr (Or.inr (⟨by first | (simp_all; done) | (simp_all [letterB]; done) | (simp_all [picB]; done) | (simp_all [monB]; done) | (simp_all [korB]; done), by first | (simp_all; done) | (simp_all [letterB]; done) | (simp_all [picB]; done) | (simp_all [monB]; done) | (simp_all [korB]; done), by first | (simp_all; done) | (simp_all [letterB]; done) | (simp_all [picB]; done) | (simp_all [monB]; done) | (simp_all [korB]; done)⟩)))
theorem kinds11 (a : Int) : ((a == 34) = true ∧ (a == 35) = false ∧ (a == 37) = false ∧ (a == 36) = false ∧ (a == 38) = false) ∨ ((a == 34) = false ∧ (a == 35) = true ∧ (a == 37) = false ∧ (a == 36) = false ∧ (a == 38) = false) ∨ ((a == 34) = false ∧ (a == 35) = false ∧ (a == 37) = true ∧ (a == 36) = false ∧ (a == 38) = false) ∨ ((a == 34) = false ∧ (a == 35) = false ∧ (a == 37) = false ∧ (a == 36) = true ∧ (a == 38) = false) ∨ ((a == 34) = false ∧ (a == 35) = false ∧ (a == 37) = false ∧ (a == 36) = false ∧ (a == 38) = true) ∨ ((a == 34) = false ∧ (a == 35) = false ∧ (a == 37) = false ∧ (a == 36) = false ∧ (a == 38) = false) := by
  rcases (show a = 34 ∨ a = 35 ∨ a = 37 ∨ a = 36 ∨ a = 38 ∨ (¬ a = 34 ∧ ¬ a = 35 ∧ ¬ a = 37 ∧ ¬ a = 36 ∧ ¬ a = 38) from by omega) with rfl | rfl | rfl | rfl | rfl | ⟨n0, n1, n2, n3, n4⟩
  · exact Or.inl ⟨by decide, by decide, by decide, by decide, by decide⟩
  · exact Or.inr (Or.inl ⟨by decide, by decide, by decide, by decide, by decide⟩)
  · exact Or.inr (Or.inr (Or.inl ⟨by decide, by decide, by decide, by decide, by decide⟩))
  · exact Or.inr (Or.inr (Or.inr (Or.inl ⟨by decide, by decide, by decide, by decide, by decide⟩)))
  · exact Or.inr (Or.inr (Or.inr (Or.inr (Or.inl ⟨by decide, by decide, by decide, by decide, by decide⟩))))
  · exact Or.inr (Or.inr (Or.inr (Or.inr (Or.inr (⟨by first | (simp_all; done) | (simp_all [letterB]; done) | (simp_all [picB]; done) | (simp_all [monB]; done) | (simp_all [korB]; done), by first | (simp_all; done) | (simp_all [letterB]; done) | (simp_all [picB]; done) | (simp_all [monB]; done) | (simp_all [korB]; done), by first | (simp_all; done) | (simp_all [letterB]; done) | (simp_all [picB]; done) | (simp_all [monB]; done) | (simp_all [korB]; done), by first | (simp_all; done) | (simp_all [letterB]; done) | (simp_all [picB]; done) | (simp_all [monB]; done) | (simp_all [korB]; done), by first | (simp_all; done) | (simp_all [letterB]; done) | (simp_all [picB]; done) | (simp_all [monB]; done) | (simp_all [korB]; done)⟩)))))
theorem kinds13 (a : Int) : ((korB a) = true ∧ (a == 29) = false ∧ (letterB a) = false ∧ (a == 25) = false ∧ (a == 27) = false ∧ (a == 20) = false) ∨ ((korB a) = false ∧ (a == 29) = true ∧ (letterB a) = false ∧ (a == 25) = false ∧ (a == 27) = false ∧ (a == 20) = false) ∨ ((korB a) = false ∧ (a == 29) = false ∧ (letterB a) = true ∧ (a == 25) = false ∧ (a == 27) = false ∧ (a == 20) = false) ∨ ((korB a) = false ∧ (a == 29) = false ∧ (letterB a) = false ∧ (a == 25) = true ∧ (a == 27) = false ∧ (a == 20) = false) ∨ ((korB a) = false ∧ (a == 29) = false ∧ (letterB a) = false ∧ (a == 25) = false ∧ (a == 27) = true ∧ (a == 20) = false) ∨ ((korB a) = false ∧ (a == 29) = false ∧ (letterB a) = false ∧ (a == 25) = false ∧ (a == 27) = false ∧ (a == 20) = true) ∨ ((korB a) = false ∧ (a == 29) = false ∧ (letterB a) = false ∧ (a == 25) = false ∧ (a == 27) = false ∧ (a == 20) = false) := by
  rcases (show a = 34 ∨ a = 35 ∨ a = 36 ∨ a = 37 ∨ a = 38 ∨ a = 29 ∨ a = 1 ∨ a = 2 ∨ a = 25 ∨ a = 27 ∨ a = 20 ∨ (¬ a = 34 ∧ ¬ a = 35 ∧ ¬ a = 36 ∧ ¬ a = 37 ∧ ¬ a = 38 ∧ ¬ a = 29 ∧ ¬ a = 1 ∧ ¬ a = 2 ∧ ¬ a = 25 ∧ ¬ a = 27 ∧ ¬ a = 20) from by omega) with rfl | rfl | rfl | rfl | rfl | rfl | rfl | rfl | rfl | rfl | rfl | ⟨n0, n1, n2, n3, n4, n5, n6, n7, n8, n9, n10⟩
  · exact Or.inl ⟨by decide, by decide, by decide, by decide, by decide, by decide⟩
  · exact Or.inl ⟨by decide, by decide, by decide, by decide, by decide, by decide⟩
  · exact Or.inl ⟨by decide, by decide, by decide, by decide, by decide, by decide⟩
  · exact Or.inl ⟨by decide, by decide, by decide, by decide, by decide, by decide⟩
  · exact Or.inl ⟨by decide, by decide, by decide, by decide, by decide, by decide⟩
  · exact Or.inr (Or.inl ⟨by decide, by decide, by decide, by decide, by decide, by decide⟩)
  · exact Or.inr (Or.inr (Or.inl ⟨by decide, by decide, by decide, by decide, by decide, by decide⟩))
  · exact Or.inr (Or.inr (Or.inl ⟨by decide, by decide, by decide, by decide, by decide, by decide⟩))
  · exact Or.inr (Or.inr (Or.inr (Or.inl ⟨by decide, by decide, by decide, by decide, by decide, by decide⟩)))
  · exact Or.inr (Or.inr (Or.inr (Or.inr (Or.inl ⟨by decide, by decide, by decide, by decide, by decide, by decide⟩))))
  · exact Or.inr (Or.inr (Or.inr (Or.inr (Or.inr (Or.inl ⟨by decide, by decide, by decide, by decide, by decide, by decide⟩)))))
  · exact Or.inr (Or.inr (Or.inr (Or.inr (Or.inr (Or.inr (⟨by first | (simp_all; done) | (simp_all [letterB]; done) | (simp_all [picB]; done) | (simp_all [monB]; done) | (simp_all [korB]; done), by first | (simp_all; done) | (simp_all [letterB]; done) | (simp_all [picB]; done) | (simp_all [monB]; done) | (simp_all [korB]; done), by first | (simp_all; done) | (simp_all [letterB]; done) | (simp_all [picB]; done) | (simp_all [monB]; done) | (simp_all [korB]; done), by first | (simp_all; done) | (simp_all [letterB]; done) | (simp_all [picB]; done) | (simp_all [monB]; done) | (simp_all [korB]; done), by first | (simp_all; done) | (simp_all [letterB]; done) | (simp_all [picB]; done) | (simp_all [monB]; done) | (simp_all [korB]; done), by first | (simp_all; done) | (simp_all [letterB]; done) | (simp_all [picB]; done) | (simp_all [monB]; done) | (simp_all [korB]; done)⟩))))))
end Go.Proofs.Ytbobhcffbgnfkaa.lr
