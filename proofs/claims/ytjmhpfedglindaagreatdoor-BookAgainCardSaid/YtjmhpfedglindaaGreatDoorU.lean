/- U: runes and bytes: what a range over a string meets, and what digits it holds. -/
import Derived.Lib.OthersKept
import Derived.Lib.Strings
set_option linter.unusedVariables false
set_option linter.unusedSimpArgs false
namespace Go.Proofs.YtjmhpfedglindaaGreatDoor

theorem get!_eq (s : ByteArray) (i : Nat) (h : i < s.size) : s.get! i = s[i] := by
  simp [ByteArray.get!, getElem!_pos, h]; rfl
theorem toList_get (s : ByteArray) (i : Nat) (h : i < s.size) : s.data.toList[i]'(by simpa using h) = s[i] := rfl

/-- What one step of a range over a string goes over. -/
structure Step (s : ByteArray) (pos r n : Nat) : Prop where
  pos1 : 1 ≤ n
  fits : pos + n ≤ s.size
  low : ∀ h : pos < s.size, s[pos].toNat < 128 → r = s[pos].toNat ∧ n = 1
  high : ∀ h : pos < s.size, 128 ≤ s[pos].toNat → 128 ≤ r ∧ ∀ i, i < n → ∀ h' : pos + i < s.size, 128 ≤ s[pos + i].toNat
  bound : r ≤ 1114111

theorem cont_high {s : ByteArray} {p k : Nat} (h : (decide (p + k < s.size) && (s.get! (p + k)).toNat / 64 == 2) = true) : p + k < s.size ∧ ∀ h' : p + k < s.size, 128 ≤ s[p + k].toNat := by
  simp only [Bool.and_eq_true, decide_eq_true_eq, beq_iff_eq] at h
  refine ⟨h.1, fun h' => ?_⟩
  rw [← get!_eq s (p + k) h']
  omega

theorem decode_step (s : ByteArray) (pos : Nat) (h : pos < s.size) : Step s pos (Utf8.decode s pos).1 (Utf8.decode s pos).2 := by
  have e0 : s.get! (pos + 0) = s[pos] := get!_eq s pos h
  have lt0 : s[pos].toNat < 256 := s[pos].toNat_lt
  unfold Utf8.decode
  simp only [e0]
  by_cases h1 : s[pos].toNat < 128
  · rw [if_pos h1]
    exact ⟨by simp, by simp; omega, fun _ _ => ⟨rfl, rfl⟩, fun _ h2 => by omega, by simp; omega⟩
  · rw [if_neg h1]
    have one : ∀ r, 128 ≤ r → r ≤ 1114111 → Step s pos r 1 := fun r hr hb =>
      ⟨by simp, by omega, fun _ h2 => absurd h2 h1, fun _ h2 => ⟨hr, fun i hi h' => by obtain rfl : i = 0 := by omega
                                                                                       simpa using h2⟩, hb⟩
    have err : Step s pos Utf8.runeError 1 := one _ (by unfold Utf8.runeError; omega) (by unfold Utf8.runeError; omega)
    split
    · rename_i h2
      simp only [Bool.and_eq_true, beq_iff_eq] at h2
      obtain ⟨q1, p1⟩ := cont_high (p := pos) (k := 1) (by simpa using h2.2)
      split
      · rename_i h3
        refine ⟨by simp, by simp; omega, fun _ h4 => absurd h4 h1, fun _ h4 => ⟨by simpa using h3, fun i hi h' => ?_⟩, by simp; omega⟩
        match i, hi with
        | 0, _ => simpa using h4
        | 1, _ => exact p1 h'
      · exact err
    · split
      · rename_i h2
        simp only [Bool.and_eq_true, beq_iff_eq] at h2
        obtain ⟨q1, p1⟩ := cont_high (p := pos) (k := 1) (by simpa using h2.1.2)
        obtain ⟨q2, p2⟩ := cont_high (p := pos) (k := 2) (by simpa using h2.2)
        split
        · rename_i h3
          simp only [Bool.and_eq_true, decide_eq_true_eq] at h3
          refine ⟨by simp, by simp; omega, fun _ h4 => absurd h4 h1, fun _ h4 => ⟨by simp; omega, fun i hi h' => ?_⟩, by simp; omega⟩
          match i, hi with
          | 0, _ => simpa using h4
          | 1, _ => exact p1 h'
          | 2, _ => exact p2 h'
        · exact err
      · split
        · rename_i h2
          simp only [Bool.and_eq_true, beq_iff_eq] at h2
          obtain ⟨q1, p1⟩ := cont_high (p := pos) (k := 1) (by simpa using h2.1.1.2)
          obtain ⟨q2, p2⟩ := cont_high (p := pos) (k := 2) (by simpa using h2.1.2)
          obtain ⟨q3, p3⟩ := cont_high (p := pos) (k := 3) (by simpa using h2.2)
          split
          · rename_i h3
            simp only [Bool.and_eq_true, decide_eq_true_eq, Utf8.valid, Bool.or_eq_true] at h3
            refine ⟨by simp, by simp; omega, fun _ h4 => absurd h4 h1, fun _ h4 => ⟨by simp; omega, fun i hi h' => ?_⟩, by simp; omega⟩
            match i, hi with
            | 0, _ => simpa using h4
            | 1, _ => exact p1 h'
            | 2, _ => exact p2 h'
            | 3, _ => exact p3 h'
          · exact err
        · exact err

def isDig (c : UInt8) : Bool := decide (48 ≤ c.toNat ∧ c.toNat ≤ 57)
/-- A digit's value; of any other byte 0. -/
def digVal (c : UInt8) : Int := if isDig c then (c.toNat : Int) - 48 else 0
def digSum (l : List UInt8) : Int := (l.map digVal).sum
theorem digVal_eq (c : UInt8) : digVal c = if 48 ≤ (c.toNat : Int) ∧ (c.toNat : Int) ≤ 57 then (c.toNat : Int) - 48 else 0 := by
  unfold digVal
  cases h : isDig c
  · simp only [isDig, decide_eq_false_iff_not] at h
    rw [if_neg (by simp), if_neg (by omega)]
  · simp only [isDig, decide_eq_true_eq] at h
    rw [if_pos rfl, if_pos (by omega)]
theorem digVal_bd (c : UInt8) : 0 ≤ digVal c ∧ digVal c ≤ 9 := by
  rw [digVal_eq]; split <;> omega
theorem digSum_append (a b : List UInt8) : digSum (a ++ b) = digSum a + digSum b := by simp [digSum]
theorem digSum_bd (l : List UInt8) : 0 ≤ digSum l ∧ digSum l ≤ 9 * l.length := by
  induction l with
  | nil => simp [digSum]
  | cons c l ih =>
    have h := digVal_bd c
    have e : digSum (c :: l) = digVal c + digSum l := by simp [digSum]
    rw [e, List.length_cons]; omega
theorem digVal_high {c : UInt8} (h : 128 ≤ c.toNat) : digVal c = 0 := by
  rw [digVal_eq, if_neg (by omega)]
theorem digSum_high (l : List UInt8) (h : ∀ c ∈ l, 128 ≤ c.toNat) : digSum l = 0 := by
  induction l with
  | nil => rfl
  | cons c l ih =>
    have e : digSum (c :: l) = digVal c + digSum l := by simp [digSum]
    rw [e, digVal_high (h c (by simp)), ih (fun x hx => h x (by simp [hx]))]; rfl

theorem take_add (l : List UInt8) (a b : Nat) : l.take (a + b) = l.take a ++ (l.drop a).take b := by
  rw [List.take_add]
theorem mem_slice {s : ByteArray} {pos n : Nat} {c : UInt8} (hf : pos + n ≤ s.size) (hc : c ∈ (s.data.toList.drop pos).take n) : ∃ i, ∃ _ : i < n, ∃ h' : pos + i < s.size, c = s[pos + i] := by
  obtain ⟨i, hi, rfl⟩ := List.mem_iff_getElem.1 hc
  have hi' : i < n := by simp at hi; omega
  refine ⟨i, hi', by omega, ?_⟩
  simp [List.getElem_take, List.getElem_drop]
  rfl

/-- The digits' sum, a step on. -/
theorem digSum_step {s : ByteArray} {pos r n : Nat} (h : Step s pos r n) (hp : pos < s.size) :
    digSum (s.data.toList.take (pos + n)) = digSum (s.data.toList.take pos) + (if 48 ≤ (r : Int) ∧ (r : Int) ≤ 57 then (r : Int) - 48 else 0) := by
  rw [take_add, digSum_append]
  congr 1
  by_cases hl : s[pos].toNat < 128
  · obtain ⟨rfl, rfl⟩ := h.low hp hl
    have e : (s.data.toList.drop pos).take 1 = [s[pos]] := by
      rw [List.take_one, List.head?_drop, List.getElem?_eq_getElem (by simpa using hp)]; rfl
    rw [e]
    simp only [digSum, List.map_cons, List.map_nil, List.sum_cons, List.sum_nil, Int.add_zero]
    exact digVal_eq _
  · obtain ⟨hr, hall⟩ := h.high hp (by omega)
    rw [if_neg (by omega)]
    refine digSum_high _ fun c hc => ?_
    obtain ⟨i, hi, h', rfl⟩ := mem_slice h.fits hc
    exact hall i hi h'
end Go.Proofs.YtjmhpfedglindaaGreatDoor
