/- V0: texts cut at a byte; numbers out of words; plainly. -/
import Derived.Test.YtjmhpfedglindaaGreatDoorT2
import Derived.Lib.Split
import Derived.Lib.TrimByte
import Derived.Lib.ItoaNum
set_option linter.unusedVariables false
set_option linter.unusedSimpArgs false
namespace Go.Proofs.YtjmhpfedglindaaGreatDoor

/-! ### Cutting at a byte -/
/-- A text cut at each byte c. -/
def partsL (c : UInt8) : List UInt8 → List (List UInt8)
  | [] => [[]]
  | x :: l => if x = c then [] :: partsL c l else match partsL c l with | [] => [[x]] | p :: ps => (x :: p) :: ps
theorem partsL_ne (c : UInt8) (l : List UInt8) : partsL c l ≠ [] := by
  cases l with
  | nil => simp [partsL]
  | cons x l =>
    rw [partsL]; split
    · simp
    · split <;> simp
theorem partsL_none (c : UInt8) (p : List UInt8) (h : c ∉ p) : partsL c p = [p] := by
  induction p with
  | nil => rfl
  | cons x p ih =>
    simp only [List.mem_cons, not_or] at h
    rw [partsL, if_neg (fun e => h.1 e.symm), ih h.2]
theorem partsL_app (c : UInt8) (p l : List UInt8) (h : c ∉ p) : partsL c (p ++ c :: l) = p :: partsL c l := by
  induction p with
  | nil => rw [List.nil_append, partsL, if_pos rfl]
  | cons x p ih =>
    simp only [List.mem_cons, not_or] at h
    rw [List.cons_append, partsL, if_neg (fun e => h.1 e.symm), ih h.2]
/-- Either the byte does not come, or it comes first behind p. -/
theorem split_at (c : UInt8) (l : List UInt8) : c ∉ l ∨ ∃ p r, l = p ++ c :: r ∧ c ∉ p := by
  induction l with
  | nil => exact .inl (by simp)
  | cons x l ih =>
    by_cases h : x = c
    · subst h; exact .inr ⟨[], l, rfl, by simp⟩
    · rcases ih with h1 | ⟨p, r, rfl, h1⟩
      · exact .inl (by simp only [List.mem_cons, not_or]; exact ⟨fun e => h e.symm, h1⟩)
      · exact .inr ⟨x :: p, r, rfl, by simp only [List.mem_cons, not_or]; exact ⟨fun e => h e.symm, h1⟩⟩
theorem parts_mem (c : UInt8) : ∀ (k : Nat) (l : List UInt8), l.length ≤ k → ∀ p ∈ partsL c l, c ∉ p := by
  intro k
  induction k with
  | zero => intro l h; have : l = [] := List.eq_nil_of_length_eq_zero (by omega); subst this; simp [partsL]
  | succ k ih =>
    intro l h
    rcases split_at c l with h1 | ⟨p, r, rfl, h1⟩
    · rw [partsL_none c l h1]; simpa using h1
    · rw [partsL_app c p r h1]
      intro q hq
      rcases List.mem_cons.1 hq with rfl | hq
      · exact h1
      · exact ih r (by simp at h; omega) q hq
/-- Pieces laid together again, with the byte between them. -/
def glueL (c : UInt8) : List (List UInt8) → List UInt8
  | [] => []
  | [p] => p
  | p :: q :: ps => p ++ c :: glueL c (q :: ps)
theorem glue_parts (c : UInt8) : ∀ (k : Nat) (l : List UInt8), l.length ≤ k → glueL c (partsL c l) = l := by
  intro k
  induction k with
  | zero => intro l h; have : l = [] := List.eq_nil_of_length_eq_zero (by omega); subst this; rfl
  | succ k ih =>
    intro l h
    rcases split_at c l with h1 | ⟨p, r, rfl, h1⟩
    · rw [partsL_none c l h1]; rfl
    · rw [partsL_app c p r h1]
      have hr := ih r (by simp at h; omega)
      cases hp : partsL c r with
      | nil => exact absurd hp (partsL_ne c r)
      | cons q ps => rw [hp] at hr; simp only [glueL]; rw [hr]
theorem parts_glue (c : UInt8) : ∀ (ps : List (List UInt8)), ps ≠ [] → (∀ p ∈ ps, c ∉ p) → partsL c (glueL c ps) = ps := by
  intro ps
  induction ps with
  | nil => intro h; exact absurd rfl h
  | cons p ps ih =>
    intro _ h
    cases ps with
    | nil => exact partsL_none c p (h p (by simp))
    | cons q ps =>
      rw [glueL, partsL_app c p _ (h p (by simp)), ih (by simp) (fun x hx => h x (by simp [hx]))]
theorem occ_one (c : UInt8) (s : List UInt8) (j : Nat) : Lib.occAt s [c] j = (s[j]? == some c) := by
  unfold Lib.occAt
  cases h : s.drop j with
  | nil =>
    have : s[j]? = none := by rw [List.getElem?_eq_none]; simpa using h
    rw [this]; rfl
  | cons x r =>
    have : s[j]? = some x := by
      have := congrArg (·[0]?) h
      simpa using this
    rw [this]
    by_cases e : x = c
    · subst e; simp [List.isPrefixOf]
    · have e1 : (c == x) = false := by simpa using fun e' => e e'.symm
      have e2 : (some x == some c) = false := by simpa using e
      rw [e2]; simp [List.isPrefixOf, e1]
theorem index_one_none (c : UInt8) (l : List UInt8) (h : c ∉ l) : Lib.index l [c] = -1 := by
  rcases Lib.index_spec l [c] with ⟨h1, _⟩ | ⟨i, _, _, h3, _⟩
  · exact h1
  · rw [occ_one] at h3
    exact absurd (List.mem_of_getElem? (beq_iff_eq.1 h3)) h
theorem index_one_some (c : UInt8) (p r : List UInt8) (h : c ∉ p) : Lib.index (p ++ c :: r) [c] = p.length := by
  refine Lib.index_first (i := p.length) (by simp) (by rw [occ_one]; simp) (fun j hj => ?_)
  rw [occ_one, List.getElem?_append_left hj, beq_eq_false_iff_ne]
  intro e
  exact h (List.mem_of_getElem? e)
theorem countFrom_one (c : UInt8) : ∀ (k : Nat) (l : List UInt8), l.length < k → Lib.countFrom [c] k l + 1 = (partsL c l).length := by
  intro k
  induction k with
  | zero => intro l h; omega
  | succ k ih =>
    intro l h
    rcases split_at c l with h1 | ⟨p, r, rfl, h1⟩
    · rw [Lib.countFrom, index_one_none c l h1, partsL_none c l h1]; rfl
    · have e : ((p.length : Int) == -1) = false := by rw [beq_eq_false_iff_ne]; omega
      have d : (p ++ c :: r).drop (p.length + 1) = r := by rw [List.drop_append]; simp
      have := ih r (by simp at h; omega)
      rw [Lib.countFrom, index_one_some c p r h1, partsL_app c p r h1, e, List.length_cons]
      simp only [Bool.false_eq_true, if_false, Int.toNat_natCast, List.length_cons, List.length_nil, Nat.zero_add, d]
      omega
theorem splitK_one (c : UInt8) : ∀ (k : Nat) (l : List UInt8), (partsL c l).length ≤ k + 1 → Lib.splitK [c] 0 k l = partsL c l := by
  intro k
  induction k with
  | zero =>
    intro l h
    rcases split_at c l with h1 | ⟨p, r, rfl, h1⟩
    · rw [Lib.splitK, partsL_none c l h1]
    · rw [partsL_app c p r h1] at h
      have := List.length_pos_iff.2 (partsL_ne c r)
      rw [List.length_cons] at h; omega
  | succ k ih =>
    intro l h
    rcases split_at c l with h1 | ⟨p, r, rfl, h1⟩
    · rw [Lib.splitK, index_one_none c l h1, partsL_none c l h1]; rfl
    · have e : ((p.length : Int) == -1) = false := by rw [beq_eq_false_iff_ne]; omega
      have d : (p ++ c :: r).drop (p.length + 1) = r := by rw [List.drop_append]; simp
      have t : (p ++ c :: r).take p.length = p := List.take_left
      rw [partsL_app c p r h1, List.length_cons] at h
      rw [Lib.splitK, index_one_some c p r h1, partsL_app c p r h1, e]
      simp only [Bool.false_eq_true, if_false, Int.toNat_natCast, List.length_cons, List.length_nil, Nat.zero_add, Nat.add_zero, d, t]
      rw [ih r (by omega)]
/-- What strings.Split hands back at one byte. -/
theorem split_one (s : ByteArray) (c : UInt8) : (Lib.splitB ⟨#[c]⟩ 0 (Lib.countB s ⟨#[c]⟩) s).map (·.data.toList) = partsL c s.data.toList ∧ Lib.countB s ⟨#[c]⟩ + 1 = (partsL c s.data.toList).length := by
  have h : Lib.countB s ⟨#[c]⟩ + 1 = (partsL c s.data.toList).length := countFrom_one c _ _ (Nat.lt_succ_self _)
  refine ⟨?_, h⟩
  rw [Lib.splitB_data]
  exact splitK_one c _ _ (by omega)
/-- strings.Cut at one byte. -/
theorem cut_none (c : UInt8) (l : List UInt8) (h : c ∉ l) : Lib.cut l [c] = (l, [], false) := by
  unfold Lib.cut; rw [index_one_none c l h]; rfl
theorem cut_some (c : UInt8) (p r : List UInt8) (h : c ∉ p) : Lib.cut (p ++ c :: r) [c] = (p, r, true) := by
  have d : (p ++ c :: r).drop (p.length + 1) = r := by rw [List.drop_append]; simp
  have t : (p ++ c :: r).take p.length = p := List.take_left
  unfold Lib.cut; rw [index_one_some c p r h, if_pos (by omega)]
  simp only [Int.toNat_natCast, List.length_cons, List.length_nil, Nat.zero_add, d, t]

/-! ### Numbers out of words -/
theorem snoc_rec {α : Type} {p : List α → Prop} (h0 : p []) (h1 : ∀ l c, p l → p (l ++ [c])) (l : List α) : p l := by
  have : ∀ (k : Nat) (l : List α), l.length = k → p l := by
    intro k
    induction k with
    | zero => intro l h; rw [List.eq_nil_of_length_eq_zero h]; exact h0
    | succ k ih =>
      intro l h
      have hne : l ≠ [] := by intro e; subst e; simp at h
      rw [← List.dropLast_concat_getLast hne]
      exact h1 _ _ (ih _ (by rw [List.length_dropLast]; omega))
  exact this _ l rfl
theorem head_app {α : Type} {l r : List α} (h : l ≠ []) : (l ++ r).head? = l.head? := by
  cases l with
  | nil => exact absurd rfl h
  | cons x l => rfl
def digN (c : UInt8) : Nat := c.toNat - 48
def numL (l : List UInt8) : Nat := l.foldl (fun n c => 10 * n + digN c) 0
theorem numL_snoc (l : List UInt8) (c : UInt8) : numL (l ++ [c]) = 10 * numL l + digN c := by simp [numL]
theorem numL_lt (l : List UInt8) (h : ∀ c ∈ l, isDig c = true) : numL l < 10 ^ l.length := by
  revert h
  refine snoc_rec (p := fun l => (∀ c ∈ l, isDig c = true) → numL l < 10 ^ l.length) ?_ ?_ l
  · intro _; simp [numL]
  · intro l c ih h
    have h1 := ih (fun x hx => h x (by simp [hx]))
    have h2 := h c (by simp)
    simp only [isDig, decide_eq_true_eq] at h2
    rw [numL_snoc, List.length_append, List.length_singleton, Nat.pow_succ]
    unfold digN; omega
/-- The number that a word writes, if it writes one. -/
def figureP (l : List UInt8) : Option Nat :=
  if l ≠ [] ∧ l.length ≤ 12 ∧ (l = [48] ∨ l.head? ≠ some 48) ∧ l.all isDig = true then some (numL l) else none
theorem dec_cases (u : Nat) : (u < 10 ∧ Lib.decDigits u = [UInt8.ofNat (48 + u)]) ∨ (10 ≤ u ∧ Lib.decDigits u = Lib.decDigits (u / 10) ++ [UInt8.ofNat (48 + u % 10)]) := by
  by_cases h : u < 10
  · exact .inl ⟨h, Lib.decDigits_one h⟩
  · refine .inr ⟨by omega, ?_⟩
    rw [Lib.decDigits, dif_neg h]
theorem ofNat_dig (d : Nat) (h : d < 10) : isDig (UInt8.ofNat (48 + d)) = true ∧ digN (UInt8.ofNat (48 + d)) = d ∧ (UInt8.ofNat (48 + d)).toNat = 48 + d := by
  have e : (UInt8.ofNat (48 + d)).toNat = 48 + d := by rw [UInt8.toNat_ofNat']; omega
  refine ⟨?_, ?_, e⟩
  · simp only [isDig, e, decide_eq_true_eq]; omega
  · simp only [digN, e]; omega
theorem dec_facts : ∀ (k u : Nat), u ≤ k → numL (Lib.decDigits u) = u ∧ (∀ c ∈ Lib.decDigits u, isDig c = true) ∧ Lib.decDigits u ≠ [] ∧ (1 ≤ u → (Lib.decDigits u).head? ≠ some 48) := by
  intro k
  induction k with
  | zero =>
    intro u h
    obtain rfl : u = 0 := by omega
    rw [Lib.decDigits_one (by omega)]
    exact ⟨by decide, by decide, by simp, by omega⟩
  | succ k ih =>
    intro u h
    rcases dec_cases u with ⟨h1, e⟩ | ⟨h1, e⟩
    · obtain ⟨a, b, c⟩ := ofNat_dig u h1
      rw [e]
      generalize UInt8.ofNat (48 + u) = x at *
      refine ⟨by simp [numL, b], by simpa using a, by simp, fun hu => ?_⟩
      simp only [List.head?_cons, ne_eq, Option.some.injEq]
      intro hh
      have := congrArg UInt8.toNat hh
      rw [c] at this
      simp at this; omega
    · obtain ⟨a, b, c⟩ := ofNat_dig (u % 10) (by omega)
      obtain ⟨i1, i2, i3, i4⟩ := ih (u / 10) (by omega)
      rw [e]
      refine ⟨by rw [numL_snoc, i1, b]; omega, ?_, by simp, fun _ => ?_⟩
      · intro x hx
        rcases List.mem_append.1 hx with hx | hx
        · exact i2 x hx
        · rw [List.mem_singleton] at hx; subst hx; exact a
      · rw [head_app i3]
        exact i4 (by omega)
theorem dec_len : ∀ (k u : Nat), 1 ≤ k → u < 10 ^ k → (Lib.decDigits u).length ≤ k := by
  intro k
  induction k with
  | zero => intro u h; omega
  | succ k ih =>
    intro u _ h
    rcases dec_cases u with ⟨h1, e⟩ | ⟨h1, e⟩
    · rw [e]; simp
    · rw [e, List.length_append, List.length_singleton]
      by_cases hk : k = 0
      · subst hk; simp at h; omega
      · have := ih (u / 10) (by omega) (by rw [Nat.pow_succ] at h; omega)
        omega
theorem figure_dec (u : Nat) (h : u < 1000000000000) : figureP (Lib.decDigits u) = some u := by
  obtain ⟨h1, h2, h3, h4⟩ := dec_facts u u (Nat.le_refl _)
  unfold figureP
  have hz : Lib.decDigits u = [48] ∨ (Lib.decDigits u).head? ≠ some 48 := by
    by_cases hu : u = 0
    · subst hu; exact .inl (Lib.decDigits_one (by omega))
    · exact .inr (h4 (by omega))
  rw [if_pos ⟨h3, dec_len 12 u (by omega) h, hz, List.all_eq_true.2 h2⟩, h1]
theorem dec_of_num (l : List UInt8) (h0 : l ≠ []) (h1 : l = [48] ∨ l.head? ≠ some 48) (h2 : ∀ c ∈ l, isDig c = true) : Lib.decDigits (numL l) = l := by
  revert h0 h1 h2
  refine snoc_rec (p := fun l => l ≠ [] → (l = [48] ∨ l.head? ≠ some 48) → (∀ c ∈ l, isDig c = true) → Lib.decDigits (numL l) = l) ?_ ?_ l
  · intro h0; exact absurd rfl h0
  · intro l c ih h0 h1 h2
    have hc := h2 c (by simp)
    simp only [isDig, decide_eq_true_eq] at hc
    have hcd : UInt8.ofNat (48 + digN c) = c := by
      apply UInt8.toNat_inj.1
      rw [UInt8.toNat_ofNat']; unfold digN; have := c.toNat_lt; omega
    have hd : digN c < 10 := by unfold digN; omega
    by_cases hl : l = []
    · subst hl
      have e : numL [c] = digN c := by simp [numL]
      rw [List.nil_append, e, Lib.decDigits_one hd, hcd]
    · have hh : l.head? ≠ some 48 := by
        rcases h1 with h1 | h1
        · have := congrArg List.length h1
          simp at this
          exact absurd this hl
        · rwa [head_app hl] at h1
      have hi := ih hl (.inr hh) (fun x hx => h2 x (by simp [hx]))
      have hpos : 1 ≤ numL l := by
        rcases Nat.eq_zero_or_pos (numL l) with hz | hz
        · rw [hz, Lib.decDigits_one (by omega)] at hi
          rw [← hi] at hh; exact absurd rfl hh
        · exact hz
      rw [numL_snoc]
      rcases dec_cases (10 * numL l + digN c) with ⟨a, _⟩ | ⟨_, e⟩
      · omega
      · have q1 : (10 * numL l + digN c) / 10 = numL l := by omega
        have q2 : (10 * numL l + digN c) % 10 = digN c := by omega
        rw [e, q1, q2, hi, hcd]
theorem itoa_nat (u : Nat) : Lib.itoa (u : Int) = Lib.decDigits u := by unfold Lib.itoa; rw [if_neg (by omega)]; simp
theorem figure_itoa (n : Int) (h0 : 0 ≤ n) (h1 : n < 1000000000000) : figureP (Lib.itoa n) = some n.toNat := by
  obtain ⟨u, rfl⟩ := Int.eq_ofNat_of_zero_le h0
  rw [itoa_nat, figure_dec u (by omega)]; simp
theorem figure_some {l : List UInt8} {n : Nat} (h : figureP l = some n) : Lib.itoa n = l ∧ n < 1000000000000 := by
  unfold figureP at h
  split at h
  · rename_i hc
    obtain ⟨h0, h1, h2, h3⟩ := hc
    simp only [Option.some.injEq] at h
    subst h
    rw [List.all_eq_true] at h3
    refine ⟨by rw [itoa_nat]; exact dec_of_num l h0 h2 h3, ?_⟩
    have := numL_lt l h3
    have hp : 10 ^ l.length ≤ 10 ^ 12 := Nat.pow_le_pow_right (by omega) h1
    omega
  · cases h
theorem itoa_digs (n : Int) (h0 : 0 ≤ n) : (∀ c ∈ Lib.itoa n, isDig c = true) ∧ Lib.itoa n ≠ [] := by
  obtain ⟨u, rfl⟩ := Int.eq_ofNat_of_zero_le h0
  rw [itoa_nat]
  obtain ⟨h1, h2, h3, h4⟩ := dec_facts u u (Nat.le_refl _)
  exact ⟨h2, h3⟩
theorem itoa_inj (a b : Int) (ha : 0 ≤ a) (hb : 0 ≤ b) (h : Lib.itoa a = Lib.itoa b) : a = b := by
  obtain ⟨u, rfl⟩ := Int.eq_ofNat_of_zero_le ha
  obtain ⟨v, rfl⟩ := Int.eq_ofNat_of_zero_le hb
  rw [itoa_nat, itoa_nat] at h
  have h1 := (dec_facts u u (Nat.le_refl _)).1
  have h2 := (dec_facts v v (Nat.le_refl _)).1
  rw [h, h2] at h1
  exact congrArg _ h1.symm
theorem notDig_mem {c : UInt8} (h : isDig c = false) {l : List UInt8} (hl : ∀ x ∈ l, isDig x = true) : c ∉ l := fun hm => by rw [hl c hm] at h; cases h
end Go.Proofs.YtjmhpfedglindaaGreatDoor
