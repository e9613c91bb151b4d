/- A3: sorted numbers; is a page valid? -/
import Derived.Test.YtjmhpfedglindaaGreatDoorA2
set_option linter.unusedVariables false
set_option linter.unusedSimpArgs false
namespace Go.Proofs.YtjmhpfedglindaaGreatDoor
open Go.RowKit

theorem isNaN_any (x : Int) (w : World) : Calls Tryz.prog 167 #[.int .i64 x] w fun e w' => e = .returned (.bool false) ∧ w = w' := by
  have h : (x != x) = false := by simp
  go_enter Tryz.func167, Tryz.ntmps167
  go_wp2
  go_ret
  exact ⟨rfl, rfl⟩
theorem less_any (x y : Int) (w : World) : Calls Tryz.prog 154 #[.int .i64 x, .int .i64 y] w fun e w' => e = .returned (.bool (decide (x < y))) ∧ w = w' := by
  go_enter Tryz.func154, Tryz.ntmps154
  go_wp2_with (go_at_call 167; refine (isNaN_any _ _).mono ?_; rintro e w' ⟨rfl, rfl⟩)
  go_ret
  exact ⟨by simp, rfl⟩
theorem sortedB_iff (l : List Int) : sortedB l = true ↔ ∀ j (h : j + 1 < l.length), l[j] ≤ l[j + 1] := by
  match l with
  | [] => simp [sortedB]
  | [a] => simp [sortedB]
  | a :: b :: l =>
    rw [sortedB, Bool.and_eq_true, decide_eq_true_eq, sortedB_iff (b :: l)]
    constructor
    · rintro ⟨h1, h2⟩ j hj
      cases j with
      | zero => exact h1
      | succ j => exact h2 j (by simpa using hj)
    · intro h
      exact ⟨h 0 (by simp), fun j hj => h (j + 1) (by simpa using hj)⟩
def SortedFrom (xs : List Int) (i : Nat) : Prop := ∀ j (h : j + 1 < xs.length), i ≤ j → xs[j] ≤ xs[j + 1]
set_option maxRecDepth 100000 in
set_option maxHeartbeats 1000000 in
/-- slices.IsSorted. -/
theorem isSorted_any (N : Nat) (xs : List Int) (a : Option Addr) (cap : Nat) (w : World) (hN : N ≤ w.heap.size) (hr : RowsR intR 1 N w a xs) (hl : xs.length ≤ 9223372036854775807) :
    Calls Tryz.prog 129 #[.slice a xs.length cap] w fun e w' => e = .returned (.bool (sortedB xs)) ∧ Below w.heap.size w w' := by
  have Hmf := Lib.hid hr
  go_enter Tryz.func129, Tryz.ntmps129
  go_wp2
  go_loopw [3] (fun i wr => ∃ k : Int, -1 ≤ k ∧ k < xs.length ∧ i = .int .i64 k ∧ Below w.heap.size w wr ∧ SortedFrom xs k.toNat) (fun i _ => (intOf i + 1).toNat)
  case atStart => exact ⟨(xs.length : Int) - 1, by omega, by omega, rfl, Below.refl _ _, fun j h hj => by omega⟩
  case round =>
    obtain ⟨k, hk0, hk, rfl, hbr, hs⟩ := hrel
    have HS := Lib.hid hs; clear hs
    by_cases hpos : 0 < k
    · obtain ⟨j, rfl⟩ : ∃ j : Nat, k = (j : Int) + 1 := ⟨(k - 1).toNat, by omega⟩
      obtain ⟨b, off, c0, rfl, hbN, hR, hc0⟩ := rows1 hr (j + 1) (by omega)
      obtain ⟨b', off', d0, hab, hbN', hR', hd0⟩ := rows1 hr j (by omega)
      obtain ⟨rfl, rfl⟩ : b = b' ∧ off = off' := by simpa using hab
      simp only [intR, List.cons.injEq, and_true] at hR hR'
      subst hR hR'
      have gc0 : ∀ x : Later w.heap.size w, x.val.cell? ⟨b, off + (j + 1), none⟩ = some (.int .i64 xs[j + 1]) := fun x => (x.below.cell (p := ⟨b, off + (j + 1), none⟩) (by show b < _; omega)).trans hc0
      have gd0 : ∀ x : Later w.heap.size w, x.val.cell? ⟨b, off + j, none⟩ = some (.int .i64 xs[j]) := fun x => (x.below.cell (p := ⟨b, off + j, none⟩) (by show b < _; omega)).trans hd0
      have hstep : xs[j] ≤ xs[j + 1] → SortedFrom xs j := by
        intro hle i hi hij
        by_cases hji : i = j
        · subst hji; exact hle
        · exact HS.out i hi (by omega)
      have hbad : xs[j + 1] < xs[j] → sortedB xs = false := by
        intro hlt
        by_cases hf : sortedB xs = true
        · rw [sortedB_iff] at hf; have := hf j (by omega); omega
        · simpa using hf
      have Hstep := Lib.hid hstep; clear hstep
      have Hbad := Lib.hid hbad; clear hbad
      clear hc0 hd0 hab
      generalize xs[j + 1] = n1 at *
      generalize xs[j] = n2 at *
      by_cases hle : n1 < n2
      · go_wp2_with fail
        refine wp_region_later w.heap.size w hbr (by kernel_rfl) (by kernel_rfl) ?_
        repeat (go_big_quiet_step (exact Calls.later_same (less_any _ _ _)))
        refine wpQuiet_nil ?_
        rintro _ ⟨x, rfl⟩
        have hd : decide (n1 < n2) = true := decide_eq_true (by omega)
        go_wp2
        go_ret
        exact ⟨by simp [Hbad.out hle], x.below⟩
      · go_wp2_with fail
        refine wp_region_later w.heap.size w hbr (by kernel_rfl) (by kernel_rfl) ?_
        repeat (go_big_quiet_step (exact Calls.later_same (less_any _ _ _)))
        refine wpQuiet_nil ?_
        rintro _ ⟨x, rfl⟩
        have hd : decide (n1 < n2) = false := decide_eq_false (by omega)
        go_wp2
        go_roundw
        case rel => exact ⟨(j : Int), by omega, by omega, by go_num, x.below, by simpa using Hstep.out (by omega)⟩
        case measure => simp [intOf]; omega
    · go_wp2
      go_ret
      refine ⟨?_, hbr⟩
      have : sortedB xs = true := by
        rw [sortedB_iff]; intro i hi
        exact HS.out i hi (by omega)
      simp [this]
/-- isPage. -/
theorem isPage_any (x : Page) (c0 c1 : Value) (N : Nat) (w : World) (hN : N ≤ w.heap.size) (hR : pageR N w x [c0, c1]) :
    Calls Tryz.prog 97 #[.agg #[c0, c1]] w fun e w' => e = .returned (.bool (Page.okB x)) ∧ Below w.heap.size w w' := by
  obtain ⟨m, l⟩ := x
  obtain ⟨a, cap, hcs, hl, hcap, hr⟩ := hR
  simp only [List.cons.injEq, and_true] at hcs
  obtain ⟨rfl, rfl⟩ := hcs
  dsimp only at hr hl
  unfold Page.okB
  dsimp only
  have hb0 : Below w.heap.size w (w.alloc (.cells #[.int .i64 m, .slice a l.length cap] 49)) := (Below.refl _ _).alloc (Nat.le_refl _) _
  have hh := int_has litreBad N l a cap (w.alloc (.cells #[.int .i64 m, .slice a l.length cap] 49)) (by simp; omega) (hr.later (hb0.mono hN)) (by omega)
    (fun x c0 W hW hR => litreBad_any x c0 N W hR)
  have Hh := Lib.hid hh; clear hh
  have hs := fun W (hW : Below (w.alloc (.cells #[.int .i64 m, .slice a l.length cap] 49)).heap.size (w.alloc (.cells #[.int .i64 m, .slice a l.length cap] 49)) W) =>
    isSorted_any N l a cap W (by have := hW.size; simp at this; omega) ((hr.later (hb0.mono hN)).later (hW.mono (by simp; omega))) (by omega)
  have Hs := Lib.hid hs; clear hs
  have hq : l.any litreBad = !l.all (fun n => inB n 0 1073741824) := by
    rw [Bool.eq_iff_iff]; simp [List.any_eq_true, List.all_eq_false, litreBad]
  rw [hq] at Hh
  clear hq
  generalize l.all (fun n => inB n 0 1073741824) = q at *
  generalize sortedB l = s at *
  by_cases h2 : l.length ≤ 16
  · have h2' : decide ((l.length : Int) ≤ 16) = true := decide_eq_true (by omega)
    cases h1 : inB m 0 9999 <;> cases q <;>
    (go_enter Tryz.func97, Tryz.ntmps97
     go_wp2_with (first | (go_at_call 111; refine (within_any _ _ _ _).mono ?_; rintro e w' ⟨rfl, rfl⟩) | (go_at_call 128; refine Hh.out.mono ?_; rintro e w1 ⟨rfl, hb⟩; have hc0 := (bcell hb).1 w.heap.size 0 (by simp); have hc1 := (bcell hb).1 w.heap.size 1 (by simp)) | (go_at_call 129; refine (Hs.out _ hb).mono ?_; rintro e w' ⟨rfl, hb'⟩))
     go_ret
     first | exact ⟨by simp [h1, h2], hb0⟩ | exact ⟨by simp [h1, h2], hb0.trans (hb.mono (by simp))⟩ | exact ⟨by simp [h1, h2], (hb0.trans (hb.mono (by simp))).trans (hb'.mono (by have := hb.size; simp at this; omega))⟩)
  · have h2' : decide ((l.length : Int) ≤ 16) = false := decide_eq_false (by omega)
    cases h1 : inB m 0 9999 <;>
    (go_enter Tryz.func97, Tryz.ntmps97
     go_wp2_with (first | (go_at_call 111; refine (within_any _ _ _ _).mono ?_; rintro e w' ⟨rfl, rfl⟩))
     go_ret
     exact ⟨by simp [h1, h2], hb0⟩)
end Go.Proofs.YtjmhpfedglindaaGreatDoor
