/-
  The names of a map in memory, sorted.
  What Load asks of a name is that it is behind the last one.
-/
import Derived.Test.YtdbnanniboiooaaDoorZBase
import Derived.Sort.KeysCollected
import Derived.Test.YtdbnanniboiooaaDoorZLoads
import Derived.Sort.Walk0
set_option linter.unusedVariables false
set_option linter.unusedSimpArgs false
namespace Go.Proofs.Carillon
theorem before_lt : ∀ (a b : List UInt8), bytesBefore a b = true → a < b := by
  intro a
  induction a with
  | nil => intro b h; cases b with
    | nil => simp [bytesBefore] at h
    | cons y b => exact List.nil_lt_cons y b
  | cons x a ih =>
    intro b h
    cases b with
    | nil => simp [bytesBefore] at h
    | cons y b =>
      simp only [bytesBefore, Bool.or_eq_true, Bool.and_eq_true, decide_eq_true_eq, beq_iff_eq] at h
      rw [List.cons_lt_cons_iff]
      rcases h with h | ⟨h, k⟩
      · exact .inl h
      · exact .inr ⟨h, ih b k⟩
theorem before_le (a b : List UInt8) (h : bytesBefore a b = true) : a ≤ b := List.le_of_lt (before_lt a b h)
theorem less_before : ∀ (a b : List UInt8), Op.bytesLess a b = bytesBefore a b := by
  intro a
  induction a with
  | nil => intro b; cases b <;> rfl
  | cons x a ih => intro b; cases b with
    | nil => rfl
    | cons y b => simp only [Op.bytesLess, bytesBefore, ih]
theorem names_sorted {α : Type} {m : List (ByteArray × α)} (h : rises m) {ss : List (List UInt8)} (hp : ss.Perm (m.map fun p => p.1.data.toList)) : ss.mergeSort (fun x y => decide (x ≤ y)) = m.map fun p => p.1.data.toList := by
  refine (mergeSort_of_perm hp).trans (List.mergeSort_of_pairwise ?_)
  rw [List.pairwise_map]
  exact h.imp (fun {p q} k => decide_eq_true (before_le _ _ k))
end Go.Proofs.Carillon
namespace Go.Proofs.YtdbnanniboiooaaDoor
open Go.Proofs.Carillon Go.Lib
theorem leB_lt (a b : ByteArray) : leB a b = false ↔ lt b a := by
  have e : leB a b = (bytesBefore a.data.toList b.data.toList || a.data.toList == b.data.toList) := by
    unfold leB
    rw [Lib.toList_data, Lib.toList_data, less_before]
  rw [e, Bool.or_eq_false_iff]
  constructor
  · intro ⟨h1, h2⟩
    have hne : a ≠ b := fun h => by rw [h] at h2; simp at h2
    rcases lt_total hne with h | h
    · unfold lt at h; rw [h1] at h; cases h
    · exact h
  · intro h
    refine ⟨?_, ?_⟩
    · cases hc : bytesBefore a.data.toList b.data.toList with
      | false => rfl
      | true => exact absurd (lt_trans h hc) (lt_irrefl _)
    · rw [beq_eq_false_iff_ne]
      intro hh
      exact absurd h (by rw [list_eq hh]; exact lt_irrefl _)
end Go.Proofs.YtdbnanniboiooaaDoor
