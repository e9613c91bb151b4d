/- C0: what the world must hold for the library; numbers in columns; the check digit. -/
import Derived.Test.YtjmhpfedglindaaGreatDoorB0
import Derived.Test.YtjmhpfedglindaaGreatDoorSh
import Derived.Test.YtjmhpfedglindaaGreatDoorT
import Derived.Lib.AppendIntMem
import Derived.Lib.ItoaLen
set_option linter.unusedVariables false
set_option linter.unusedSimpArgs false
namespace Go.Proofs.YtjmhpfedglindaaGreatDoor
open Go.RowKit

/-- What the library's text reads: the table of powers of ten, and a number in block 1. All of it lies below N. -/
structure Env (N : Nat) (w : World) : Prop where
  tab : Lib.TabBelow Tryz.prog N w "internal/strconv.uint64pow10" .u64 Lib.pow10Tab
  max : ∃ m : Int, w.cell? ⟨1, 0, none⟩ = some (.int .i64 m)
  one : 1 < N
theorem Env.later {N : Nat} {w W : World} (h : Env N w) (hb : Below N w W) : Env N W := by
  obtain ⟨m, hm⟩ := h.max
  exact ⟨h.tab.on hb, ⟨m, (hb.cell (p := ⟨1, 0, none⟩) h.one).trans hm⟩, h.one⟩

theorem itoa_any (n : Int) (N : Nat) (w : World) (h0 : -9223372036854775808 ≤ n) (h1 : n ≤ 9223372036854775807) (hE : Env N w) :
    Calls Tryz.prog 61 #[.int .i64 n] w fun e w' => e = .returned (.string ⟨(Lib.itoa n).toArray⟩) ∧ Below w.heap.size w w' :=
  (Tryz.strconv_Itoa n h0 h1 w hE.tab.here).mono fun _ _ ⟨he, k, os, hw⟩ => ⟨he, by rw [hw]; exact Lib.below_grow _ _ (Nat.le_refl _) _ _⟩
theorem itoa_digit (n : Int) (h0 : 0 ≤ n) (h1 : n < 10) (w : World) :
    Calls Tryz.prog 61 #[.int .i64 n] w fun e w' => e = .returned (.string ⟨#[48 + UInt8.ofNat n.toNat]⟩) ∧ w = w' := by
  obtain ⟨k, rfl⟩ := Int.eq_ofNat_of_zero_le h0
  refine (Tryz.strconv_Itoa_small k (by omega) w).mono fun _ _ ⟨he, hw⟩ => ⟨?_, hw.symm⟩
  rw [he, Lib.decDigits_one (by omega)]; simp

theorem str_append (a b : List UInt8) : (⟨a.toArray⟩ : ByteArray) ++ ⟨b.toArray⟩ = ⟨(a ++ b).toArray⟩ := by
  apply ByteArray.ext; simp [ByteArray.data_append]
theorem repeatL_one (c : UInt8) (k : Nat) : Lib.repeatL [c] k = List.replicate k c := by
  induction k with
  | zero => rfl
  | succ k ih => rw [Lib.repeatL, ih, List.replicate_succ]; rfl

set_option maxHeartbeats 400000 in
theorem wide_any (n : Int) (k : Nat) (sign : UInt8) (N : Nat) (w : World) (h0 : -9223372036854775808 ≤ n) (h1 : n ≤ 9223372036854775807) (hk : k ≤ 100) (hE : Env N w) :
    Calls Tryz.prog 54 #[.int .i64 n, .int .i64 k, .string ⟨#[sign]⟩] w fun e w' => e = .returned (.string ⟨(wideL n k sign).toArray⟩) ∧ Below w.heap.size w w' := by
  have hi := itoa_any n N w h0 h1 hE
  have Hi := Lib.hid hi; clear hi
  have hl := Lib.itoa_length_le n h0 h1
  unfold wideL
  have hsz : (⟨(Lib.itoa n).toArray⟩ : ByteArray).size = (Lib.itoa n).length := by simp [ByteArray.size]
  generalize Lib.itoa n = s at *
  have hmax : max (0 : Int) ((k : Int) - (s.length : Int)) = ((k - s.length : Nat) : Int) := by omega
  have hr := fun W => Tryz.strings_Repeat ⟨#[sign]⟩ (k - s.length) W (by omega) (by simp [ByteArray.size]; omega)
  have Hr := Lib.hid hr; clear hr
  have hrl : (Lib.repeatL [sign] (k - s.length)).length ≤ 100 := by rw [Lib.repeatL_length]; simp; omega
  generalize hm : k - s.length = m at *
  have Hm := Lib.hid hm; clear hm
  go_enter Tryz.func54, Tryz.ntmps54
  go_wp2_with (first | (go_at_call 61; refine Hi.out.mono ?_; rintro e w1 ⟨rfl, hb1⟩) | (go_at_call 91; refine (Hr.out _).mono ?_; rintro e w2 ⟨rfl, hb2⟩))
  go_ret
  refine ⟨?_, hb1.trans (hb2.mono hb1.size)⟩
  show Ending.returned (.string (_ ++ _)) = _
  rw [str_append, repeatL_one]

set_option maxHeartbeats 1000000 in
theorem check_any (s : ByteArray) (hs : s.size ≤ 1000000000000000) (w : World) :
    Calls Tryz.prog 56 #[.string s] w fun e w' => e = .returned (.string ⟨#[checkD s.data.toList]⟩) ∧ Below w.heap.size w w' := by
  go_enter Tryz.func56, Tryz.ntmps56
  go_wp2
  go_loopw [3] (fun i wr => ∃ pos : Nat, pos ≤ s.size ∧ wr.heap[w.heap.size]? = some (.stringIter s pos) ∧ Below w.heap.size w wr ∧ i = .int .i64 (digSum (s.data.toList.take pos))) (fun _ wr => s.size - wr.iterPos w.heap.size)
  case atStart => exact ⟨0, Nat.zero_le _, World.iter_heap w s 0, (Below.refl _ _).alloc (Nat.le_refl _) _, rfl⟩
  case round =>
    obtain ⟨pos, hps, hk, hbr, rfl⟩ := hrel
    have hsd := digSum_bd (s.data.toList.take pos)
    have hlen : (s.data.toList.take pos).length ≤ 1000000000000000 := by simp; omega
    by_cases hp : pos < s.size
    · have hst := decode_step s pos hp
      have hnext : ∀ ty, (Instr.next (.pointer (some ⟨w.heap.size, 0, none⟩)) true ty).run Tryz.prog wr = _ := fun ty => Lib.run_next_any_at wr w.heap.size s pos ty hk hp
      have hds := digSum_step hst hp
      have hfit := hst.fits
      have hone := hst.pos1
      have hbd := hst.bound
      have Hst := Lib.hid hst; clear hst
      have hk1 := Lib.iterAt_heap wr w.heap.size s pos (pos + (Utf8.decode s pos).2) hk
      have hb1 := Lib.below_iterAt hbr (Nat.le_refl w.heap.size) s (pos + (Utf8.decode s pos).2)
      generalize (Utf8.decode s pos).1 = r at *
      generalize (Utf8.decode s pos).2 = n at *
      generalize digSum (s.data.toList.take pos) = d at *
      generalize hw1 : wr.iterAt w.heap.size s (pos + n) = w1 at *
      have Hw1 := Lib.hid hw1; clear hw1
      have Hds := Lib.hid hds; clear hds
      by_cases h1 : 48 ≤ (r : Int)
      · by_cases h2 : (r : Int) ≤ 57
        · have e1 : IntKind.i32.wrap ((r : Int) - 48) = (r : Int) - 48 := IntWalk.i32_in _ (by omega)
          go_wp2
          go_roundw
          case rel => exact ⟨pos + n, hfit, hk1, hb1, by rw [Hds.out, if_pos ⟨h1, h2⟩]⟩
          case measure => simp [World.iterPos, hk, hk1]; omega
        · go_wp2
          go_roundw
          case rel => exact ⟨pos + n, hfit, hk1, hb1, by rw [Hds.out, if_neg (by omega)]; simp⟩
          case measure => simp [World.iterPos, hk, hk1]; omega
      · go_wp2
        go_roundw
        case rel => exact ⟨pos + n, hfit, hk1, hb1, by rw [Hds.out, if_neg (by omega)]; simp⟩
        case measure => simp [World.iterPos, hk, hk1]; omega
    · have hnext : ∀ ty, (Instr.next (.pointer (some ⟨w.heap.size, 0, none⟩)) true ty).run Tryz.prog wr = _ := fun ty => Lib.run_next_end_at wr w.heap.size s pos ty hk hp
      have ht : s.data.toList.take pos = s.data.toList := List.take_of_length_le (by simp; omega)
      rw [ht] at hsd ⊢
      generalize hd : digSum s.data.toList = d at *
      have Hd := Lib.hid hd; clear hd ht
      go_wp2_with (go_at_call 61; refine (itoa_digit _ (by omega) (by omega) _).mono ?_; rintro e w1 ⟨rfl, rfl⟩)
      go_ret
      exact ⟨by unfold checkD; rw [Hd.out]; rfl, hbr⟩
end Go.Proofs.YtjmhpfedglindaaGreatDoor
