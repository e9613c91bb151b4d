/- T2: the texts of pages, as plain lists of bytes. -/
import Derived.Test.YtjmhpfedglindaaGreatDoorT
set_option linter.unusedVariables false
set_option linter.unusedSimpArgs false
namespace Go.Proofs.YtjmhpfedglindaaGreatDoor

structure Growth where
  many : Int
  by_ : Int
deriving DecidableEq, Inhabited
/-- By how much numbers grow, one after the other. -/
def diffs : List Int → List Int
  | a :: b :: l => (b - a) :: diffs (b :: l)
  | _ => []
/-- One more growth: the last one goes on, or a new one begins. -/
def gstep (gs : List Growth) (d : Int) : List Growth :=
  match gs.getLast? with
  | some g => if g.by_ = d then gs.dropLast ++ [⟨g.many + 1, d⟩] else gs ++ [⟨1, d⟩]
  | none => [⟨1, d⟩]
def growthsL (l : List Int) : List Growth := (diffs l).foldl gstep []
def wordL (g : Growth) : List UInt8 := if g.many = 1 then Lib.itoa g.by_ else Lib.itoa g.many ++ 120 :: Lib.itoa g.by_
def firstL (l : List Int) : List (List UInt8) := match l with | [] => [] | a :: _ => [Lib.itoa a]
def pageWords (x : Page) : List (List UInt8) := Lib.itoa x.house :: (firstL x.readings ++ (growthsL x.readings).map wordL)
def pageL (x : Page) : List UInt8 := lineL (pageWords x)
/-- The file of pages. -/
def pagesL (l : List Page) : List UInt8 := (l.map pageL).flatten

theorem diffs_snoc (l : List Int) (a b : Int) : diffs (l ++ [a, b]) = diffs (l ++ [a]) ++ [b - a] := by
  match l with
  | [] => rfl
  | [x] => rfl
  | x :: y :: l => 
    have := diffs_snoc (y :: l) a b
    simp only [List.cons_append, diffs] at *
    rw [this]
theorem growthsL_snoc (l : List Int) (a b : Int) : growthsL (l ++ [a, b]) = gstep (growthsL (l ++ [a])) (b - a) := by
  unfold growthsL; rw [diffs_snoc, List.foldl_append]; rfl
theorem growths_take (l : List Int) (k : Nat) (h : k + 1 < l.length) : growthsL (l.take (k + 1 + 1)) = gstep (growthsL (l.take (k + 1))) (l[k + 1] - l[k]) := by
  have e1 : l.take (k + 1) = l.take k ++ [l[k]] := List.take_succ_eq_append_getElem (by omega)
  have e2 : l.take (k + 1 + 1) = l.take k ++ [l[k], l[k + 1]] := by rw [List.take_succ_eq_append_getElem h, e1, List.append_assoc]; rfl
  rw [e2, growthsL_snoc, e1]
theorem growths_small (l : List Int) (h : l.length ≤ 1) : growthsL l = [] := by
  match l, h with
  | [], _ => rfl
  | [a], _ => rfl
theorem gstep_snoc (gs : List Growth) (g : Growth) (d : Int) : gstep (gs ++ [g]) d = if g.by_ = d then gs ++ [⟨g.many + 1, d⟩] else gs ++ [g] ++ [⟨1, d⟩] := by
  simp [gstep]
theorem gstep_nil (d : Int) : gstep [] d = [⟨1, d⟩] := rfl
theorem gstep_length (gs : List Growth) (d : Int) : (gstep gs d).length ≤ gs.length + 1 := by
  unfold gstep; split
  · split
    · simp
    · simp
  · simp
/-- What is known of growths: how many there are, and their numbers. -/
def GOk (n : Nat) (gs : List Growth) : Prop := gs.length ≤ n ∧ ∀ g ∈ gs, 1 ≤ g.many ∧ g.many ≤ n ∧ -1073741824 ≤ g.by_ ∧ g.by_ ≤ 1073741824
theorem gok_step {n : Nat} {gs : List Growth} {d : Int} (h : GOk n gs) (h1 : -1073741824 ≤ d) (h2 : d ≤ 1073741824) : GOk (n + 1) (gstep gs d) := by
  refine ⟨by have := gstep_length gs d; have := h.1; omega, ?_⟩
  intro g hg
  unfold gstep at hg
  split at hg
  · rename_i g0 hl
    have hm := List.mem_of_getLast? hl
    have h0 := h.2 g0 hm
    split at hg
    · rcases List.mem_append.1 hg with hg | hg
      · have := h.2 g ((List.dropLast_subset _) hg); omega
      · simp at hg; subst hg; dsimp only; omega
    · rcases List.mem_append.1 hg with hg | hg
      · have := h.2 g hg; omega
      · simp at hg; subst hg; dsimp only; omega
  · simp at hg; subst hg; dsimp only; omega
theorem gok_growths (l : List Int) (h : ∀ n ∈ l, 0 ≤ n ∧ n ≤ 1073741824) : ∀ k, k ≤ l.length → GOk k (growthsL (l.take k)) := by
  intro k
  induction k with
  | zero => intro _; exact ⟨by simp [growths_small], by simp [growths_small]⟩
  | succ k ih =>
    intro hk
    cases k with
    | zero => rw [growths_small _ (by simp; omega)]; exact ⟨by simp, by simp⟩
    | succ k =>
      have hi := ih (by omega)
      rw [growths_take l k (by omega)]
      have a := h l[k] (List.getElem_mem _)
      have b := h l[k + 1] (List.getElem_mem _)
      exact gok_step hi (by omega) (by omega)
theorem Page.bounds {x : Page} (h : x.okB = true) : 0 ≤ x.house ∧ x.house ≤ 9999 ∧ x.readings.length ≤ 16 ∧ (∀ n ∈ x.readings, 0 ≤ n ∧ n ≤ 1073741824) := by
  simp only [Page.okB, inB, Bool.and_eq_true, decide_eq_true_eq, List.all_eq_true] at h
  exact ⟨by omega, by omega, h.1.1.2, h.1.2⟩
theorem wordL_length (g : Growth) (n : Nat) (hn : n ≤ 100) (h : 1 ≤ g.many ∧ g.many ≤ n ∧ -1073741824 ≤ g.by_ ∧ g.by_ ≤ 1073741824) : (wordL g).length ≤ 43 := by
  have h1 := Lib.itoa_length_le g.by_ (by omega) (by omega)
  have h2 := Lib.itoa_length_le g.many (by omega) (by omega)
  unfold wordL; split
  · omega
  · simp; omega
theorem joinL_length_le (ws : List (List UInt8)) (B : Nat) (h : ∀ x ∈ ws, x.length ≤ B) : (joinL ws).length ≤ ws.length * (B + 1) := by
  cases ws with
  | nil => simp [joinL, Lib.join_nil]
  | cons x r =>
    unfold joinL
    rw [Lib.join_length]
    have hl : ∀ l : List (List UInt8), (∀ x ∈ l, x.length ≤ B) → Lib.lens l ≤ l.length * B := by
      intro l
      induction l with
      | nil => intro _; simp [Lib.lens]
      | cons a l ih =>
        intro h
        have h1 := ih (fun x hx => h x (by simp [hx]))
        have h2 := h a (by simp)
        simp only [Lib.lens, List.map_cons, List.sum_cons, List.length_cons, Nat.add_mul] at *
        omega
    have := hl (x :: r) h
    simp only [List.length_cons, List.length_nil, Nat.mul_add, Nat.add_mul] at *
    omega
theorem pageWords_bd (x : Page) (h : x.okB = true) : (pageWords x).length ≤ 18 ∧ ∀ u ∈ pageWords x, u.length ≤ 43 := by
  obtain ⟨h1, h2, h3, h4⟩ := Page.bounds h
  have hg := gok_growths x.readings h4 x.readings.length (Nat.le_refl _)
  rw [List.take_length] at hg
  have hf : (firstL x.readings).length ≤ 1 ∧ ∀ u ∈ firstL x.readings, u.length ≤ 43 := by
    cases hr : x.readings with
    | nil => simp [firstL]
    | cons a l =>
      have := h4 a (by simp [hr])
      have := Lib.itoa_length_le a (by omega) (by omega)
      refine ⟨by simp [firstL], fun u hu => ?_⟩
      simp [firstL] at hu; subst hu; omega
  constructor
  · have := hg.1
    simp only [pageWords, List.length_cons, List.length_append, List.length_map]; omega
  · intro u hu
    simp only [pageWords, List.mem_cons, List.mem_append, List.mem_map] at hu
    rcases hu with rfl | hu | ⟨g, hgm, rfl⟩
    · have := Lib.itoa_length_le x.house (by omega) (by omega); omega
    · exact hf.2 u hu
    · exact wordL_length g _ (by omega) (hg.2 g hgm)
theorem pageL_length (x : Page) (h : x.okB = true) : (pageL x).length ≤ 800 := by
  obtain ⟨h1, h2⟩ := pageWords_bd x h
  have := joinL_length_le _ _ h2
  have h3 : (pageWords x).length * (43 + 1) ≤ 18 * 44 := Nat.mul_le_mul h1 (Nat.le_refl _)
  unfold pageL lineL; rw [List.length_append]; simp only [List.length_cons, List.length_nil]; omega
theorem pagesL_length (l : List Page) (h : ∀ x ∈ l, x.okB = true) : (pagesL l).length ≤ l.length * 800 := flatten_le _ _ _ fun t ht => pageL_length t (h t ht)
end Go.Proofs.YtjmhpfedglindaaGreatDoor
