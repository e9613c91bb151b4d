/- R0: plates out of bits, plainly. -/
import Derived.Test.YtjmhpfedglindaaGreatDoorF3
import Derived.Test.YtjmhpfedglindaaGreatDoorG1
import Derived.Test.YtjmhpfedglindaaGreatDoorA4
set_option linter.unusedVariables false
set_option linter.unusedSimpArgs false
namespace Go.Proofs.YtjmhpfedglindaaGreatDoor
open Go.RowKit

/-- So many plates, out of bits, behind those that have been read. -/
def platesA : Nat → List Plate → Int → List Bool → Option (List Plate × List Bool)
  | 0, acc, _, l => some (acc, l)
  | k + 1, acc, last, l => match plateP last l with | none => none | some (x, r) => platesA k (acc ++ [x]) x.number r
/-- The plates of a file. -/
def readPl (bs : List UInt8) : Option (List Plate) :=
  if 8 ≤ (bitsOf bs).length then
    match platesA (valB ((bitsOf bs).take 8)) [] 0 ((bitsOf bs).drop 8) with
    | none => none
    | some (xs, r) => if r.length < 8 ∧ platesErr xs = 0 ∧ onesB r = 0 then some xs else none
  else none

theorem plateP_ok {last : Int} {l : List Bool} {x : Plate} {r : List Bool} (h : plateP last l = some (x, r)) : last < x.number ∧ x.number < last + 131072 ∧ ∃ pre, l = pre ++ r := by
  unfold plateP at h
  split at h
  · cases h
  · rename_i n r' hg
    obtain ⟨h1, h2, pre, _, hp⟩ := gammaP_ok l 0 n r' (by omega) hg
    split at h
    · split at h
      · simp only [Option.some.injEq, Prod.mk.injEq] at h
        obtain ⟨rfl, rfl⟩ := h
        refine ⟨by dsimp only; omega, by dsimp only; omega, pre ++ r'.take 22, ?_⟩
        rw [hp, List.append_assoc, List.take_append_drop]
      · cases h
    · cases h
def Plate.enc (x : Plate) : List Value := [.int .i64 x.number, .int .i64 x.cls, .int .i64 x.day]
def encPs (l : List Plate) : List Value := l.flatMap Plate.enc
theorem encPs_snoc (l : List Plate) (x : Plate) : encPs (l ++ [x]) = encPs l ++ [.int .i64 x.number, .int .i64 x.cls, .int .i64 x.day] := by simp [encPs, Plate.enc]
theorem encPs_length (l : List Plate) : (encPs l).length = l.length * 3 := by
  induction l with
  | nil => rfl
  | cons x l ih => rw [show encPs (x :: l) = Plate.enc x ++ encPs l from rfl, List.length_append, ih]; simp only [Plate.enc, List.length_cons, List.length_nil]; omega
theorem encPs_at : ∀ (l : List Plate) (j i : Nat) (h : j < l.length), i < 3 → (encPs l)[j * 3 + i]? = (Plate.enc l[j])[i]?
  | x :: l, 0, i, h, hi => by
    rw [show encPs (x :: l) = Plate.enc x ++ encPs l from rfl, List.getElem?_append_left (by simp [Plate.enc]; omega)]; simp
  | x :: l, j + 1, i, h, hi => by
    rw [show encPs (x :: l) = Plate.enc x ++ encPs l from rfl, List.getElem?_append_right (by simp [Plate.enc]; omega)]
    have := encPs_at l j i (by simpa using h) hi
    have e : (j + 1) * 3 + i - (Plate.enc x).length = j * 3 + i := by simp [Plate.enc]; omega
    rw [e, this]; simp
/-- What a call owns can be read. -/
theorem rows_of_own {w : World} {B : Nat} {a : Option Addr} {n cap : Nat} {l : List Plate} (h : w.ownsRow B 51 3 (.slice a n cap) l.length (encPs l)) (N : Nat) (hN : w.heap.size ≤ N) : n = l.length ∧ RowsR plateR 3 N w a l := by
  rcases h.2 with ⟨h1, h2⟩ | ⟨g, cap', cur, h1, hb, hg, _⟩
  · injection h1 with h3 h4 h5
    refine ⟨by omega, fun j hj => by omega⟩
  · injection h1 with h3 h4 h5
    subst h3 h4 h5
    refine ⟨rfl, fun j hj => ⟨g, 0, Plate.enc l[j], rfl, by have := block_lt hg; omega, rfl, rfl, fun i hi => ?_⟩⟩
    have hx : j * 3 + i < l.length * 3 := by
      have : (j + 1) * 3 ≤ l.length * 3 := Nat.mul_le_mul_right 3 hj
      omega
    have := h.cellAt (j * 3 + i) hx
    rw [Nat.zero_add, this, encPs_at l j i hj hi]
theorem infoPlate : (Tryz.prog.info? 51).map (fun i => (i.zero, i.size, i.bytes)) = some (some (.agg #[.int .i64 0, .int .i64 0, .int .i64 0]), 3, 24) := by kernel_rfl
theorem underlying22 : Tryz.prog.underlying 22 = some (.slice 51) := by kernel_rfl
end Go.Proofs.YtjmhpfedglindaaGreatDoor
