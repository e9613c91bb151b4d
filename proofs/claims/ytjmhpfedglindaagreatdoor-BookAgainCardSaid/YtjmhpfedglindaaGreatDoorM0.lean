/- M0: parts of lists: their errors, their files, how they lie. -/
import Derived.Test.YtjmhpfedglindaaGreatDoorL1
import Derived.Test.YtjmhpfedglindaaGreatDoorL2
set_option linter.unusedVariables false
set_option linter.unusedSimpArgs false
namespace Go.Proofs.YtjmhpfedglindaaGreatDoor
open Go.RowKit

theorem errOf_zero {α : Type} {most : Nat} {ok : α → Bool} {num : α → Int} {l : List α} : errOf most ok num l = 0 ↔ l.length ≤ most ∧ l.all ok = true ∧ risesB (l.map num) = true := by
  unfold errOf
  constructor
  · intro h
    split at h
    · omega
    · split at h
      · split at h
        · exact ⟨by omega, by assumption, by assumption⟩
        · omega
      · omega
  · rintro ⟨h1, h2, h3⟩
    rw [if_neg (by omega), if_pos h2, if_pos h3]
theorem errOf_take {α : Type} {most : Nat} {ok : α → Bool} {num : α → Int} {l : List α} (h : errOf most ok num l = 0) (k : Nat) : errOf most ok num (l.take k) = 0 := by
  obtain ⟨h1, h2, h3⟩ := errOf_zero.1 h
  refine errOf_zero.2 ⟨by rw [List.length_take]; omega, ?_, ?_⟩
  · rw [List.all_eq_true] at h2 ⊢
    exact fun x hx => h2 x (List.mem_of_mem_take hx)
  · rw [risesB_iff] at h3 ⊢
    intro j hj
    have := h3 j (by simp at hj ⊢; omega)
    simpa using this
theorem errOf_drop {α : Type} {most : Nat} {ok : α → Bool} {num : α → Int} {l : List α} (h : errOf most ok num l = 0) (k : Nat) : errOf most ok num (l.drop k) = 0 := by
  obtain ⟨h1, h2, h3⟩ := errOf_zero.1 h
  refine errOf_zero.2 ⟨by rw [List.length_drop]; omega, ?_, ?_⟩
  · rw [List.all_eq_true] at h2 ⊢
    exact fun x hx => h2 x (List.mem_of_mem_drop hx)
  · rw [risesB_iff] at h3 ⊢
    intro j hj
    have := h3 (k + j) (by simp at hj ⊢; omega)
    simpa [Nat.add_assoc] using this
theorem sheetsL_split (l : List Sheet) (k : Nat) : sheetsL l = sheetsL (l.take k) ++ sheetsL (l.drop k) := by
  unfold sheetsL
  rw [← List.flatten_append, ← List.map_append, List.take_append_drop]
theorem pagesL_split (l : List Page) (k : Nat) : pagesL l = pagesL (l.take k) ++ pagesL (l.drop k) := by
  unfold pagesL
  rw [← List.flatten_append, ← List.map_append, List.take_append_drop]
theorem RowsR.take {α : Type} {R : Rd α} {k N : Nat} {w : World} {a : Option Addr} {xs : List α} (h : RowsR R k N w a xs) (n : Nat) : RowsR R k N w a (xs.take n) := by
  intro j hj
  have hj' : j < xs.length := by rw [List.length_take] at hj; omega
  obtain ⟨b, off, cs, ha, hb, hR, hk, hc⟩ := h j hj'
  exact ⟨b, off, cs, ha, hb, by simpa using hR, hk, hc⟩
theorem RowsR.drop {α : Type} {R : Rd α} {k N : Nat} {w : World} {b off : Nat} {xs : List α} (h : RowsR R k N w (some ⟨b, off, none⟩) xs) (n : Nat) : RowsR R k N w (some ⟨b, off + n * k, none⟩) (xs.drop n) := by
  intro j hj
  rw [List.length_drop] at hj
  obtain ⟨b', off', cs, ha, hb, hR, hk, hc⟩ := h (n + j) (by omega)
  simp only [Option.some.injEq, Addr.mk.injEq, and_true] at ha
  obtain ⟨rfl, rfl⟩ := ha
  refine ⟨b, off + n * k, cs, rfl, hb, by simpa using hR, hk, fun i hi => ?_⟩
  have e : off + n * k + j * k + i = off + (n + j) * k + i := by rw [Nat.add_mul]; omega
  rw [e]; exact hc i hi
theorem RowsR.none {α : Type} {R : Rd α} {k N : Nat} {w : World} {a : Option Addr} {xs : List α} (h : xs = []) : RowsR R k N w a xs := by
  subst h; intro j hj; cases hj
end Go.Proofs.YtjmhpfedglindaaGreatDoor
