/- A2: a sheet, a page: are they valid? -/
import Derived.Test.YtjmhpfedglindaaGreatDoorA1
set_option linter.unusedVariables false
set_option linter.unusedSimpArgs false
namespace Go.Proofs.YtjmhpfedglindaaGreatDoor
open Go.RowKit

def Try.badB (t : Try) : Bool := !inB t.flow 1 100000 || !inB t.poured 0 9999999 || !inB t.shown 0 9999999
theorem Try.badB_eq (t : Try) : t.badB = !t.okB := by simp [Try.badB, Try.okB, Bool.or_assoc]
theorem tryBad_any (x : Try) (c0 c1 c2 : Value) (N : Nat) (w : World) (hR : tryR N w x [c0, c1, c2]) :
    Calls Tryz.prog 118 #[.agg #[c0, c1, c2]] w fun e w' => e = .returned (.bool (Try.badB x)) ∧ Below w.heap.size w w' := by
  obtain ⟨n, c, d⟩ := x
  simp only [tryR, List.cons.injEq, and_true] at hR
  obtain ⟨rfl, rfl, rfl⟩ := hR
  unfold Try.badB
  cases h1 : inB n 1 100000 <;> cases h2 : inB c 0 9999999 <;>
  (go_enter Tryz.func118, Tryz.ntmps118
   go_wp2_with (go_at_call 111; refine (within_any _ _ _ _).mono ?_; rintro e w' ⟨rfl, rfl⟩)
   go_ret
   exact ⟨by simp [h1, h2], (Below.refl _ _).alloc (Nat.le_refl _) _⟩)
def litreBad (n : Int) : Bool := !inB n 0 1073741824
theorem litreBad_any (x : Int) (c0 : Value) (N : Nat) (w : World) (hR : intR N w x [c0]) :
    Calls Tryz.prog 127 #[c0] w fun e w' => e = .returned (.bool (litreBad x)) ∧ Below w.heap.size w w' := by
  simp only [intR, List.cons.injEq, and_true] at hR
  subst hR
  unfold litreBad
  go_enter Tryz.func127, Tryz.ntmps127
  go_wp2_with (go_at_call 111; refine (within_any _ _ _ _).mono ?_; rintro e w' ⟨rfl, rfl⟩)
  go_ret
  exact ⟨rfl, Below.refl _ _⟩

theorem try_idx (p : Try → Bool) (N : Nat) (xs : List Try) (a : Option Addr) (cap : Nat) (w : World) (hN : N ≤ w.heap.size) (hr : RowsR tryR 3 N w a xs) (hl : xs.length ≤ 9223372036854775807)
    (hf : ∀ x c0 c1 c2 W, Below w.heap.size w W → tryR N W x [c0, c1, c2] → Calls Tryz.prog 118 #[.agg #[c0, c1, c2]] W fun e w' => e = .returned (.bool (p x)) ∧ Below W.heap.size W w') :
    Calls Tryz.prog 146 #[.slice a xs.length cap, .func (.func 118) #[] #[]] w
      fun e w' => (∃ r : Int, e = .returned (.int .i64 r) ∧ decide (0 ≤ r) = xs.any p) ∧ Below w.heap.size w w' := by
  have Hf := Lib.hid hf; clear hf
  go_enter Tryz.func146, Tryz.ntmps146
  go_wp2
  go_loopw [8] (fun i wr => ∃ k : Nat, k ≤ xs.length ∧ i = .int .i64 k ∧ Below w.heap.size w wr ∧ (xs.take k).any p = false) (fun i _ => xs.length - (intOf i).toNat)
  case atStart => exact ⟨0, Nat.zero_le _, rfl, Below.refl _ _, by simp⟩
  case round =>
    obtain ⟨k, hk, rfl, hbr, hany⟩ := hrel
    have HA := Lib.hid hany; clear hany
    by_cases hlt : k < xs.length
    · obtain ⟨b, off, c0, c1, c2, rfl, hbN, hR, hc0, hc1, hc2⟩ := rows3 (hr.later (hbr.mono hN)) k hlt
      have hno := Hf.out xs[k] c0 c1 c2 wr hbr hR
      have Hno := Lib.hid hno; clear hno
      have HR := Lib.hid hR; clear hR
      cases hp : p xs[k]
      · rw [hp] at Hno
        have Hp := Lib.hid hp; clear hp
        go_wp2_with (go_at_call 118; refine Hno.out.mono ?_; rintro e w' ⟨rfl, hb'⟩)
        go_roundw
        case rel => exact ⟨k + 1, by omega, by go_num, hbr.trans (hb'.mono hbr.size), by rw [any_take_succ _ _ _ hlt, HA.out, Hp.out]; rfl⟩
        case measure => simp [intOf]; omega
      · rw [hp] at Hno
        have Hp := Lib.hid hp; clear hp
        go_wp2_with (go_at_call 118; refine Hno.out.mono ?_; rintro e w' ⟨rfl, hb'⟩)
        go_ret
        exact ⟨⟨k, rfl, by rw [any_of_at _ _ _ hlt Hp.out]; simp⟩, hbr.trans (hb'.mono hbr.size)⟩
    · go_wp2
      go_ret
      obtain rfl : k = xs.length := by omega
      have hall := HA.out
      rw [List.take_length] at hall
      exact ⟨⟨-1, rfl, by rw [hall]; rfl⟩, hbr⟩

theorem try_has (p : Try → Bool) (N : Nat) (xs : List Try) (a : Option Addr) (cap : Nat) (w : World) (hN : N ≤ w.heap.size) (hr : RowsR tryR 3 N w a xs) (hl : xs.length ≤ 9223372036854775807)
    (hf : ∀ x c0 c1 c2 W, Below w.heap.size w W → tryR N W x [c0, c1, c2] → Calls Tryz.prog 118 #[.agg #[c0, c1, c2]] W fun e w' => e = .returned (.bool (p x)) ∧ Below W.heap.size W w') :
    Calls Tryz.prog 119 #[.slice a xs.length cap, .func (.func 118) #[] #[]] w
      fun e w' => e = .returned (.bool (xs.any p)) ∧ Below w.heap.size w w' := by
  have Hi := Lib.hid (try_idx p N xs a cap w hN hr hl hf)
  clear hf
  generalize xs.any p = q at *
  go_enter Tryz.func119, Tryz.ntmps119
  go_wp2_with (go_at_call 146; refine Hi.out.mono ?_; rintro e w' ⟨⟨r, rfl, hr'⟩, hb'⟩; have Hr := Lib.hid hr'; clear hr')
  go_ret
  exact ⟨by rw [← Hr.out]; rfl, hb'⟩

theorem int_idx (p : Int → Bool) (N : Nat) (xs : List Int) (a : Option Addr) (cap : Nat) (w : World) (hN : N ≤ w.heap.size) (hr : RowsR intR 1 N w a xs) (hl : xs.length ≤ 9223372036854775807)
    (hf : ∀ x c0 W, Below w.heap.size w W → intR N W x [c0] → Calls Tryz.prog 127 #[c0] W fun e w' => e = .returned (.bool (p x)) ∧ Below W.heap.size W w') :
    Calls Tryz.prog 153 #[.slice a xs.length cap, .func (.func 127) #[] #[]] w
      fun e w' => (∃ r : Int, e = .returned (.int .i64 r) ∧ decide (0 ≤ r) = xs.any p) ∧ Below w.heap.size w w' := by
  have Hf := Lib.hid hf; clear hf
  go_enter Tryz.func153, Tryz.ntmps153
  go_wp2
  go_loopw [8] (fun i wr => ∃ k : Nat, k ≤ xs.length ∧ i = .int .i64 k ∧ Below w.heap.size w wr ∧ (xs.take k).any p = false) (fun i _ => xs.length - (intOf i).toNat)
  case atStart => exact ⟨0, Nat.zero_le _, rfl, Below.refl _ _, by simp⟩
  case round =>
    obtain ⟨k, hk, rfl, hbr, hany⟩ := hrel
    have HA := Lib.hid hany; clear hany
    by_cases hlt : k < xs.length
    · obtain ⟨b, off, c0, rfl, hbN, hR, hc0⟩ := rows1 (hr.later (hbr.mono hN)) k hlt
      have hno := Hf.out xs[k] c0 wr hbr hR
      have Hno := Lib.hid hno; clear hno
      have HR := Lib.hid hR; clear hR
      cases hp : p xs[k]
      · rw [hp] at Hno
        have Hp := Lib.hid hp; clear hp
        go_wp2_with (go_at_call 127; refine Hno.out.mono ?_; rintro e w' ⟨rfl, hb'⟩)
        go_roundw
        case rel => exact ⟨k + 1, by omega, by go_num, hbr.trans (hb'.mono hbr.size), by rw [any_take_succ _ _ _ hlt, HA.out, Hp.out]; rfl⟩
        case measure => simp [intOf]; omega
      · rw [hp] at Hno
        have Hp := Lib.hid hp; clear hp
        go_wp2_with (go_at_call 127; refine Hno.out.mono ?_; rintro e w' ⟨rfl, hb'⟩)
        go_ret
        exact ⟨⟨k, rfl, by rw [any_of_at _ _ _ hlt Hp.out]; simp⟩, hbr.trans (hb'.mono hbr.size)⟩
    · go_wp2
      go_ret
      obtain rfl : k = xs.length := by omega
      have hall := HA.out
      rw [List.take_length] at hall
      exact ⟨⟨-1, rfl, by rw [hall]; rfl⟩, hbr⟩

theorem int_has (p : Int → Bool) (N : Nat) (xs : List Int) (a : Option Addr) (cap : Nat) (w : World) (hN : N ≤ w.heap.size) (hr : RowsR intR 1 N w a xs) (hl : xs.length ≤ 9223372036854775807)
    (hf : ∀ x c0 W, Below w.heap.size w W → intR N W x [c0] → Calls Tryz.prog 127 #[c0] W fun e w' => e = .returned (.bool (p x)) ∧ Below W.heap.size W w') :
    Calls Tryz.prog 128 #[.slice a xs.length cap, .func (.func 127) #[] #[]] w
      fun e w' => e = .returned (.bool (xs.any p)) ∧ Below w.heap.size w w' := by
  have Hi := Lib.hid (int_idx p N xs a cap w hN hr hl hf)
  clear hf
  generalize xs.any p = q at *
  go_enter Tryz.func128, Tryz.ntmps128
  go_wp2_with (go_at_call 153; refine Hi.out.mono ?_; rintro e w' ⟨⟨r, rfl, hr'⟩, hb'⟩; have Hr := Lib.hid hr'; clear hr')
  go_ret
  exact ⟨by rw [← Hr.out]; rfl, hb'⟩

/-- isSheet. -/
theorem isSheet_any (x : Sheet) (c0 c1 : Value) (N : Nat) (w : World) (hN : N ≤ w.heap.size) (hR : sheetR N w x [c0, c1]) :
    Calls Tryz.prog 89 #[.agg #[c0, c1]] w fun e w' => e = .returned (.bool (Sheet.okB x)) ∧ Below w.heap.size w w' := by
  obtain ⟨m, l⟩ := x
  obtain ⟨a, cap, hcs, hl, hcap, hr⟩ := hR
  simp only [List.cons.injEq, and_true] at hcs
  obtain ⟨rfl, rfl⟩ := hcs
  dsimp only at hr hl
  unfold Sheet.okB
  dsimp only
  have hb0 : Below w.heap.size w (w.alloc (.cells #[.int .i64 m, .slice a l.length cap] 46)) := (Below.refl _ _).alloc (Nat.le_refl _) _
  have hh := try_has Try.badB N l a cap (w.alloc (.cells #[.int .i64 m, .slice a l.length cap] 46)) (by simp; omega) (hr.later (hb0.mono hN)) (by omega)
    (fun x c0 c1 c2 W hW hR => tryBad_any x c0 c1 c2 N W hR)
  have Hh := Lib.hid hh; clear hh
  have hq : l.any Try.badB = !l.all Try.okB := by
    rw [Bool.eq_iff_iff]; simp [List.any_eq_true, List.all_eq_false, Try.badB_eq]
  rw [hq] at Hh
  clear hq
  generalize l.all Try.okB = q at *
  by_cases h2 : l.length ≤ 6
  · have h2' : decide ((l.length : Int) ≤ 6) = true := decide_eq_true (by omega)
    cases h1 : inB m 1 999999 <;>
    (go_enter Tryz.func89, Tryz.ntmps89
     go_wp2_with (first | (go_at_call 111; refine (within_any _ _ _ _).mono ?_; rintro e w' ⟨rfl, rfl⟩) | (go_at_call 119; refine Hh.out.mono ?_; rintro e w' ⟨rfl, hb⟩))
     go_ret
     first | exact ⟨by simp [h1, h2], hb0⟩ | exact ⟨by simp [h1, h2], hb0.trans (by first | exact hb.mono (by simp) | exact Below.refl _ _)⟩)
  · have h2' : decide ((l.length : Int) ≤ 6) = false := decide_eq_false (by omega)
    cases h1 : inB m 1 999999 <;>
    (go_enter Tryz.func89, Tryz.ntmps89
     go_wp2_with (first | (go_at_call 111; refine (within_any _ _ _ _).mono ?_; rintro e w' ⟨rfl, rfl⟩))
     go_ret
     exact ⟨by simp [h1, h2], hb0⟩)
/-- The number of a sheet. -/
theorem sheetNumber_any (x : Sheet) (c0 c1 : Value) (N : Nat) (w : World) (hR : sheetR N w x [c0, c1]) :
    Calls Tryz.prog 90 #[.agg #[c0, c1]] w fun e w' => e = .returned (.int .i64 x.meter) ∧ Below w.heap.size w w' := by
  obtain ⟨a, cap, hcs, hl, hcap, hr⟩ := hR
  simp only [List.cons.injEq, and_true] at hcs
  obtain ⟨rfl, rfl⟩ := hcs
  go_enter Tryz.func90, Tryz.ntmps90
  go_wp2
  go_ret
  exact ⟨rfl, (Below.refl _ _).alloc (Nat.le_refl _) _⟩
theorem pageNumber_any (x : Page) (c0 c1 : Value) (N : Nat) (w : World) (hR : pageR N w x [c0, c1]) :
    Calls Tryz.prog 98 #[.agg #[c0, c1]] w fun e w' => e = .returned (.int .i64 x.house) ∧ Below w.heap.size w w' := by
  obtain ⟨a, cap, hcs, hl, hcap, hr⟩ := hR
  simp only [List.cons.injEq, and_true] at hcs
  obtain ⟨rfl, rfl⟩ := hcs
  go_enter Tryz.func98, Tryz.ntmps98
  go_wp2
  go_ret
  exact ⟨rfl, (Below.refl _ _).alloc (Nat.le_refl _) _⟩
end Go.Proofs.YtjmhpfedglindaaGreatDoor
