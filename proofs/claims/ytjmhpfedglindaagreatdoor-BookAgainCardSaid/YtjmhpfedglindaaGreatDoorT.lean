/- T: the texts of sheets and pages, as plain lists of bytes. -/
import Derived.Test.YtjmhpfedglindaaGreatDoorS
import Derived.Test.YtjmhpfedglindaaGreatDoorU
import Derived.Lib.ItoaLen
import Derived.Lib.Join
set_option linter.unusedVariables false
set_option linter.unusedSimpArgs false
namespace Go.Proofs.YtjmhpfedglindaaGreatDoor

/-- A number in so many bytes, with signs before it. -/
def wideL (n : Int) (k : Nat) (sign : UInt8) : List UInt8 := List.replicate (k - (Lib.itoa n).length) sign ++ Lib.itoa n
/-- The check digit. -/
def checkD (l : List UInt8) : UInt8 := 48 + UInt8.ofNat (digSum l % 10).toNat
/-- Words with a blank between them. -/
def joinL (ws : List (List UInt8)) : List UInt8 := Lib.join ws [32]
def lineL (ws : List (List UInt8)) : List UInt8 := joinL ws ++ [10]
def headL (m : Int) : List UInt8 := 35 :: wideL m 6 48
def rowL (t : Try) : List (List UInt8) := [wideL t.flow 6 32, wideL t.poured 7 32, wideL t.shown 7 32]
def tryL (t : Try) : List UInt8 := lineL (rowL t ++ [[checkD (joinL (rowL t))]])
def headLineL (m : Int) : List UInt8 := lineL [headL m, [checkD (headL m)]]
def triesL (l : List Try) : List UInt8 := (l.map tryL).flatten
def sheetL (x : Sheet) : List UInt8 := headLineL x.meter ++ triesL x.tries
/-- The file of sheets. -/
def sheetsL (l : List Sheet) : List UInt8 := (l.map sheetL).flatten

theorem wideL_length (n : Int) (k : Nat) (sign : UInt8) (h0 : 0 ≤ n) (h1 : n ≤ 9223372036854775807) : (wideL n k sign).length ≤ k + 21 := by
  have := Lib.itoa_length_le n (by omega) h1
  simp [wideL]; omega
theorem joinL2 (a b : List UInt8) : joinL [a, b] = a ++ 32 :: b := by simp [joinL, Lib.join, List.intercalate]
theorem joinL3 (a b c : List UInt8) : joinL [a, b, c] = a ++ 32 :: (b ++ 32 :: c) := by simp [joinL, Lib.join, List.intercalate]
theorem joinL4 (a b c d : List UInt8) : joinL [a, b, c, d] = a ++ 32 :: (b ++ 32 :: (c ++ 32 :: d)) := by simp [joinL, Lib.join, List.intercalate]
theorem headL_length (m : Int) (h0 : 0 ≤ m) (h1 : m ≤ 9223372036854775807) : (headL m).length ≤ 28 := by
  have := wideL_length m 6 48 h0 h1
  simp [headL]; omega
theorem headLineL_length (m : Int) (h0 : 0 ≤ m) (h1 : m ≤ 9223372036854775807) : (headLineL m).length ≤ 31 := by
  have := headL_length m h0 h1
  simp [headLineL, lineL, joinL2]; omega
theorem Try.bounds {t : Try} (h : t.okB = true) : 0 ≤ t.flow ∧ t.flow ≤ 9999999 ∧ 0 ≤ t.poured ∧ t.poured ≤ 9999999 ∧ 0 ≤ t.shown ∧ t.shown ≤ 9999999 := by
  simp only [Try.okB, inB, Bool.and_eq_true, decide_eq_true_eq] at h
  omega
theorem joinRow_length (t : Try) (h : t.okB = true) : (joinL (rowL t)).length ≤ 90 := by
  have := Try.bounds h
  have h1 := wideL_length t.flow 6 32 (by omega) (by omega)
  have h2 := wideL_length t.poured 7 32 (by omega) (by omega)
  have h3 := wideL_length t.shown 7 32 (by omega) (by omega)
  simp [rowL, joinL3]; omega
theorem joinRow4_length (t : Try) (h : t.okB = true) : (joinL (rowL t ++ [[checkD (joinL (rowL t))]])).length ≤ 92 := by
  have := Try.bounds h
  have h1 := wideL_length t.flow 6 32 (by omega) (by omega)
  have h2 := wideL_length t.poured 7 32 (by omega) (by omega)
  have h3 := wideL_length t.shown 7 32 (by omega) (by omega)
  simp [rowL, joinL4]; omega
theorem tryL_length (t : Try) (h : t.okB = true) : (tryL t).length ≤ 93 := by
  have := joinRow4_length t h
  unfold tryL lineL; rw [List.length_append]; simp only [List.length_cons, List.length_nil]; omega
theorem flatten_le {α : Type} (f : α → List UInt8) (B : Nat) (l : List α) (h : ∀ x ∈ l, (f x).length ≤ B) : (l.map f).flatten.length ≤ l.length * B := by
  induction l with
  | nil => simp
  | cons a l ih =>
    have := ih (fun x hx => h x (by simp [hx]))
    have := h a (by simp)
    rw [List.map_cons, List.flatten_cons, List.length_append, List.length_cons, Nat.add_mul]; omega
theorem Sheet.bounds {x : Sheet} (h : x.okB = true) : 0 ≤ x.meter ∧ x.meter ≤ 999999 ∧ x.tries.length ≤ 6 ∧ ∀ t ∈ x.tries, t.okB = true := by
  simp only [Sheet.okB, inB, Bool.and_eq_true, decide_eq_true_eq, List.all_eq_true] at h
  exact ⟨by omega, by omega, h.1.2, h.2⟩
theorem triesL_length (l : List Try) (h : ∀ t ∈ l, t.okB = true) : (triesL l).length ≤ l.length * 93 := flatten_le _ _ _ fun t ht => tryL_length t (h t ht)
theorem sheetL_length (x : Sheet) (h : x.okB = true) : (sheetL x).length ≤ 600 := by
  obtain ⟨h1, h2, h3, h4⟩ := Sheet.bounds h
  have := triesL_length x.tries h4
  have := headLineL_length x.meter (by omega) (by omega)
  unfold sheetL; rw [List.length_append]; omega
theorem sheetsL_length (l : List Sheet) (h : ∀ x ∈ l, x.okB = true) : (sheetsL l).length ≤ l.length * 600 := flatten_le _ _ _ fun t ht => sheetL_length t (h t ht)
theorem take_flatten_succ {α : Type} (f : α → List UInt8) (l : List α) (k : Nat) (h : k < l.length) : ((l.take (k + 1)).map f).flatten = ((l.take k).map f).flatten ++ f l[k] := by
  rw [List.take_succ_eq_append_getElem h, List.map_append, List.flatten_append]; simp
end Go.Proofs.YtjmhpfedglindaaGreatDoor
