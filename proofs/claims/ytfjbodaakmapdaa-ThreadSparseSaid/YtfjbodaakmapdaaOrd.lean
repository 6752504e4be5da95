/-
  The order by length and then as strings: a strict total order.
-/
import Derived.Test.YtfjbodaakmapdaaSrt2
import Derived.Sort.Walk0
namespace Go.Proofs.Ytfjbodaakmapdaa
open Go.RowKit Go.Shelf Go.Lib Go.Sort Th Kit

theorem blC_lt (x y : ByteArray) : ltOf blC x y = true ↔ x.size < y.size ∨ (x.size = y.size ∧ x.toList < y.toList) := by
  unfold ltOf blC cI cS
  rw [decide_eq_true_iff, bytesLess_eq]
  by_cases h1 : (x.size : Int) < (y.size : Int)
  · rw [if_pos h1]
    simp; omega
  · rw [if_neg h1]
    by_cases h2 : (y.size : Int) < (x.size : Int)
    · rw [if_pos h2]
      simp; omega
    · rw [if_neg h2]
      have hs : x.size = y.size := by omega
      by_cases h3 : x.toList < y.toList
      · simp [h3, hs]
      · simp only [h3, decide_false, Bool.false_eq_true, if_false]
        split
        · simp; omega
        · split <;> simp <;> omega
theorem blC_swo : SWO (ltOf blC) := by
  have hf : ∀ x y, ltOf blC x y = false ↔ ¬ (x.size < y.size ∨ (x.size = y.size ∧ x.toList < y.toList)) := fun x y => by
    rw [← blC_lt, Bool.not_eq_true]
  refine ⟨fun x => ?_, fun x y z h1 h2 => ?_, fun x y z h1 h2 => ?_⟩
  · rw [hf]
    rintro (h | ⟨_, h⟩)
    · omega
    · exact absurd h (List.lt_irrefl _)
  · rw [blC_lt] at *
    rcases h1 with h1 | ⟨e1, h1⟩ <;> rcases h2 with h2 | ⟨e2, h2⟩
    · left; omega
    · left; omega
    · left; omega
    · right; exact ⟨by omega, List.lt_trans h1 h2⟩
  · rw [hf] at *
    rintro (h | ⟨e, h⟩)
    · by_cases g : x.size < y.size
      · exact h1 (.inl g)
      · exact h2 (.inl (by omega))
    · by_cases g : x.size < y.size
      · exact h1 (.inl g)
      · by_cases g2 : y.size < z.size
        · exact h2 (.inl g2)
        · have e1 : x.size = y.size := by omega
          have e2 : y.size = z.size := by omega
          have l1 : ¬ x.toList < y.toList := fun h => h1 (.inr ⟨e1, h⟩)
          have l2 : ¬ y.toList < z.toList := fun h => h2 (.inr ⟨e2, h⟩)
          rw [List.not_lt] at l1 l2
          exact absurd h (List.not_lt.2 (List.le_trans l2 l1))
theorem blC_total (x y : ByteArray) (h1 : ltOf blC x y = false) (h2 : ltOf blC y x = false) : x = y := by
  have hf : ∀ x y, ltOf blC x y = false ↔ ¬ (x.size < y.size ∨ (x.size = y.size ∧ x.toList < y.toList)) := fun x y => by
    rw [← blC_lt, Bool.not_eq_true]
  rw [hf] at h1 h2
  have hs : x.size = y.size := by
    by_cases g : x.size < y.size
    · exact absurd (.inl g) h1
    · by_cases g2 : y.size < x.size
      · exact absurd (.inl g2) h2
      · omega
  have l1 : ¬ x.toList < y.toList := fun h => h1 (.inr ⟨hs, h⟩)
  have l2 : ¬ y.toList < x.toList := fun h => h2 (.inr ⟨hs.symm, h⟩)
  rw [List.not_lt] at l1 l2
  have := List.le_antisymm l2 l1
  apply ByteArray.ext
  apply Array.ext'
  simpa [ByteArray.toList_eq] using this
theorem ins_size (l : List ByteArray) : (Sort.insertionSort (ltOf blC) l.toArray 0 l.length).size = l.length := by
  have h := insertionSort_holds (lt := ltOf blC) blC_swo l.toArray 0 l.length (Nat.zero_le _) (by simp)
  rw [h.1.1]; simp
end Go.Proofs.Ytfjbodaakmapdaa
