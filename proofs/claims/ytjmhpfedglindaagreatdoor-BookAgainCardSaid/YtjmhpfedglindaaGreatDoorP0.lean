/- P0: bits, and the files of plates, as plain lists. -/
import Derived.Test.YtjmhpfedglindaaGreatDoorS
set_option linter.unusedVariables false
set_option linter.unusedSimpArgs false
namespace Go.Proofs.YtjmhpfedglindaaGreatDoor

/-- The number that bits write. -/
def valB (l : List Bool) : Nat := l.foldl (fun n b => 2 * n + b.toNat) 0
/-- The bits of a number, in so many places. -/
def natBits (n : Nat) : Nat → List Bool
  | 0 => []
  | k + 1 => n.testBit k :: natBits n k
/-- How many bits are set. -/
def onesB (l : List Bool) : Nat := (l.map Bool.toNat).sum
/-- The whole bytes that bits fill. -/
def packB (l : List Bool) : List UInt8 := (List.range (l.length / 8)).map fun i => UInt8.ofNat (valB ((l.drop (8 * i)).take 8))
/-- The bits that fill no byte. -/
def restB (l : List Bool) : List Bool := l.drop (8 * (l.length / 8))

theorem natBits_length (n k : Nat) : (natBits n k).length = k := by
  induction k with
  | zero => rfl
  | succ k ih => simp [natBits, ih]
theorem valB_foldl (l : List Bool) (n : Nat) : l.foldl (fun n b => 2 * n + b.toNat) n = n * 2 ^ l.length + valB l := by
  unfold valB
  induction l generalizing n with
  | nil => simp
  | cons b l ih =>
    simp only [List.foldl_cons, List.length_cons]
    rw [ih, ih (2 * 0 + b.toNat), Nat.pow_succ]
    simp only [Nat.mul_zero, Nat.zero_add, Nat.add_mul]
    have : 2 * n * 2 ^ l.length = n * (2 ^ l.length * 2) := by rw [Nat.mul_comm 2 n, Nat.mul_assoc, Nat.mul_comm 2]
    omega
theorem valB_append (l r : List Bool) : valB (l ++ r) = valB l * 2 ^ r.length + valB r := by
  have := valB_foldl r (valB l)
  rw [← this]; unfold valB; rw [List.foldl_append]
theorem valB_snoc (l : List Bool) (b : Bool) : valB (l ++ [b]) = 2 * valB l + b.toNat := by unfold valB; rw [List.foldl_append]; rfl
theorem valB_cons (b : Bool) (l : List Bool) : valB (b :: l) = b.toNat * 2 ^ l.length + valB l := by
  have := valB_append [b] l
  simpa [valB] using this
theorem valB_lt (l : List Bool) : valB l < 2 ^ l.length := by
  induction l with
  | nil => simp [valB]
  | cons b l ih =>
    rw [valB_cons, List.length_cons, Nat.pow_succ]
    have : b.toNat ≤ 1 := by cases b <;> simp
    have h : b.toNat * 2 ^ l.length ≤ 1 * 2 ^ l.length := Nat.mul_le_mul this (Nat.le_refl _)
    omega
theorem valB_natBits (n k : Nat) (h : n < 2 ^ k) : valB (natBits n k) = n := by
  have hm : ∀ k, valB (natBits n k) = n % 2 ^ k := by
    intro k
    induction k with
    | zero => simp [natBits, valB, Nat.mod_one]
    | succ k ih =>
      rw [natBits, valB_cons, ih, natBits_length]
      have h1 := Nat.mod_pow_succ (x := n) (b := 2) (k := k)
      rw [h1, Nat.toNat_testBit, Nat.mul_comm, Nat.add_comm]
  rw [hm, Nat.mod_eq_of_lt h]
theorem onesB_append (l r : List Bool) : onesB (l ++ r) = onesB l + onesB r := by simp [onesB]
theorem onesB_le (l : List Bool) : onesB l ≤ l.length := by
  induction l with
  | nil => simp [onesB]
  | cons b l ih => 
    have : b.toNat ≤ 1 := by cases b <;> simp
    simp only [onesB, List.map_cons, List.sum_cons, List.length_cons] at *
    omega
theorem restB_length (l : List Bool) : (restB l).length = l.length % 8 := by unfold restB; rw [List.length_drop]; omega
theorem restB_snoc (l : List Bool) (b : Bool) : restB (l ++ [b]) = if (l.length + 1) % 8 = 0 then [] else restB l ++ [b] := by
  have e : (l ++ [b]).length = l.length + 1 := by simp
  unfold restB
  rw [e]
  split
  · rename_i h
    apply List.drop_eq_nil_of_le
    rw [e]; omega
  · rename_i h
    have e2 : (l.length + 1) / 8 = l.length / 8 := by omega
    rw [e2, List.drop_append_of_le_length (by omega)]
theorem packB_snoc (l : List Bool) (b : Bool) : packB (l ++ [b]) = if (l.length + 1) % 8 = 0 then packB l ++ [UInt8.ofNat (valB (restB l ++ [b]))] else packB l := by
  have e : (l ++ [b]).length = l.length + 1 := by simp
  have hold : ∀ i, i ∈ List.range (l.length / 8) → UInt8.ofNat (valB (((l ++ [b]).drop (8 * i)).take 8)) = UInt8.ofNat (valB ((l.drop (8 * i)).take 8)) := by
    intro i hi
    have hi := List.mem_range.1 hi
    rw [List.drop_append_of_le_length (by omega), List.take_append_of_le_length (by rw [List.length_drop]; omega)]
  unfold packB
  rw [e]
  split
  · rename_i h
    have e2 : (l.length + 1) / 8 = l.length / 8 + 1 := by omega
    rw [e2, List.range_succ, List.map_append, List.map_congr_left hold]
    congr 1
    simp only [List.map_cons, List.map_nil]
    unfold restB
    rw [List.drop_append_of_le_length (by omega), List.take_of_length_le (by rw [List.length_append, List.length_drop]; simp; omega)]
  · rename_i h
    have e2 : (l.length + 1) / 8 = l.length / 8 := by omega
    rw [e2, List.map_congr_left hold]
theorem packB_length (l : List Bool) : (packB l).length = l.length / 8 := by simp [packB]
theorem valB_rest_lt (l : List Bool) : valB (restB l) < 128 := by
  have h := valB_lt (restB l)
  rw [restB_length] at h
  have h2 : 2 ^ (l.length % 8) ≤ 2 ^ 7 := Nat.pow_le_pow_right (by omega) (by omega)
  omega
end Go.Proofs.YtjmhpfedglindaaGreatDoor
