/- A4: the errors of sheets. -/
import Derived.Test.YtjmhpfedglindaaGreatDoorA3
set_option linter.unusedVariables false
set_option linter.unusedSimpArgs false
namespace Go.Proofs.YtjmhpfedglindaaGreatDoor
open Go.RowKit

theorem sheetNo_any (x : Sheet) (c0 c1 : Value) (N B : Nat) (w : World) (hN : N ≤ w.heap.size) (hR : sheetR N w x [c0, c1]) (hc : w.cell? ⟨B, 0, none⟩ = some (.func (.func 89) #[] #[])) :
    Calls Tryz.prog 117 #[.agg #[c0, c1], .pointer (some ⟨B, 0, none⟩)] w fun e w' => e = .returned (.bool (!Sheet.okB x)) ∧ Below w.heap.size w w' := by
  have h0 : B < w.heap.size := World.block_lt_of_cell? w ⟨B, 0, none⟩ hc
  have hp := fun W (hW : Below w.heap.size w W) => isSheet_any x c0 c1 N W (by have := hW.size; omega) (Rd.stay hR (hW.mono hN))
  have Hp := Lib.hid hp; clear hp
  have HR := Lib.hid hR; clear hR
  generalize Sheet.okB x = r at *
  go_enter Tryz.func117, Tryz.ntmps117
  go_wp2_with (go_at_call 89; refine (Hp.out _ ((Below.refl _ _).alloc (Nat.le_refl _) _)).mono ?_; rintro e w' ⟨rfl, hb⟩)
  go_ret
  exact ⟨rfl, ((Below.refl _ _).alloc (Nat.le_refl _) _).trans (hb.mono (by simp))⟩

theorem sheet_idx (p : Sheet → Bool) (N : Nat) (B : Nat) (xs : List Sheet) (a : Option Addr) (cap : Nat) (w : World) (hN : N ≤ w.heap.size) (hr : RowsR sheetR 2 N w a xs) (hl : xs.length ≤ 9223372036854775807)
    (hf : ∀ x c0 c1 W, Below w.heap.size w W → sheetR N W x [c0, c1] → Calls Tryz.prog 117 #[.agg #[c0, c1], .pointer (some ⟨B, 0, none⟩)] W fun e w' => e = .returned (.bool (p x)) ∧ Below W.heap.size W w') :
    Calls Tryz.prog 145 #[.slice a xs.length cap, .func (.func 117) #[] #[.pointer (some ⟨B, 0, none⟩)]] w
      fun e w' => (∃ r : Int, e = .returned (.int .i64 r) ∧ decide (0 ≤ r) = xs.any p) ∧ Below w.heap.size w w' := by
  have Hf := Lib.hid hf; clear hf
  go_enter Tryz.func145, Tryz.ntmps145
  go_wp2
  go_loopw [8] (fun i wr => ∃ k : Nat, k ≤ xs.length ∧ i = .int .i64 k ∧ Below w.heap.size w wr ∧ (xs.take k).any p = false) (fun i _ => xs.length - (intOf i).toNat)
  case atStart => exact ⟨0, Nat.zero_le _, rfl, Below.refl _ _, by simp⟩
  case round =>
    obtain ⟨k, hk, rfl, hbr, hany⟩ := hrel
    have HA := Lib.hid hany; clear hany
    by_cases hlt : k < xs.length
    · obtain ⟨b, off, c0, c1, rfl, hbN, hR, hc0, hc1⟩ := rows2 (hr.later (hbr.mono hN)) k hlt
      have hno := Hf.out xs[k] c0 c1 wr hbr hR
      have Hno := Lib.hid hno; clear hno
      have HR := Lib.hid hR; clear hR
      cases hp : p xs[k]
      · rw [hp] at Hno
        have Hp := Lib.hid hp; clear hp
        go_wp2_with (go_at_call 117; refine Hno.out.mono ?_; rintro e w' ⟨rfl, hb'⟩)
        go_roundw
        case rel => exact ⟨k + 1, by omega, by go_num, hbr.trans (hb'.mono hbr.size), by rw [any_take_succ _ _ _ hlt, HA.out, Hp.out]; rfl⟩
        case measure => simp [intOf]; omega
      · rw [hp] at Hno
        have Hp := Lib.hid hp; clear hp
        go_wp2_with (go_at_call 117; refine Hno.out.mono ?_; rintro e w' ⟨rfl, hb'⟩)
        go_ret
        exact ⟨⟨k, rfl, by rw [any_of_at _ _ _ hlt Hp.out]; simp⟩, hbr.trans (hb'.mono hbr.size)⟩
    · go_wp2
      go_ret
      obtain rfl : k = xs.length := by omega
      have hall := HA.out
      rw [List.take_length] at hall
      exact ⟨⟨-1, rfl, by rw [hall]; rfl⟩, hbr⟩

theorem sheet_has (p : Sheet → Bool) (N : Nat) (B : Nat) (xs : List Sheet) (a : Option Addr) (cap : Nat) (w : World) (hN : N ≤ w.heap.size) (hr : RowsR sheetR 2 N w a xs) (hl : xs.length ≤ 9223372036854775807)
    (hf : ∀ x c0 c1 W, Below w.heap.size w W → sheetR N W x [c0, c1] → Calls Tryz.prog 117 #[.agg #[c0, c1], .pointer (some ⟨B, 0, none⟩)] W fun e w' => e = .returned (.bool (p x)) ∧ Below W.heap.size W w') :
    Calls Tryz.prog 116 #[.slice a xs.length cap, .func (.func 117) #[] #[.pointer (some ⟨B, 0, none⟩)]] w
      fun e w' => e = .returned (.bool (xs.any p)) ∧ Below w.heap.size w w' := by
  have Hi := Lib.hid (sheet_idx p N B xs a cap w hN hr hl hf)
  clear hf
  generalize xs.any p = q at *
  go_enter Tryz.func116, Tryz.ntmps116
  go_wp2_with (go_at_call 145; refine Hi.out.mono ?_; rintro e w' ⟨⟨r, rfl, hr'⟩, hb'⟩; have Hr := Lib.hid hr'; clear hr')
  go_ret
  exact ⟨by rw [← Hr.out]; rfl, hb'⟩

set_option maxRecDepth 100000 in
set_option maxHeartbeats 1000000 in
theorem sheetErrorOf_any (N : Nat) (xs : List Sheet) (a : Option Addr) (cap : Nat) (w : World) (hN : N ≤ w.heap.size) (hr : RowsR sheetR 2 N w a xs) (hl : xs.length ≤ 9223372036854775807) :
    Calls Tryz.prog 88 #[.slice a xs.length cap, .int .i64 12, .func (.func 89) #[] #[], .func (.func 90) #[] #[]] w
      fun e w' => e = .returned (.int .i64 (sheetsErr xs)) ∧ Below w.heap.size w w' := by
  have hmf : ∀ (fn : Fn) (first cap : Array Value) (w : World), (Instr.makeFunc fn first cap).run Tryz.prog w = .ok (.func fn first cap) w := fun _ _ _ _ => rfl
  by_cases hlong : 12 < xs.length
  · have hd : decide ((12 : Int) < (xs.length : Int)) = true := by simp; omega
    go_enter Tryz.func88, Tryz.ntmps88
    go_wp2
    go_ret
    exact ⟨by simp [sheetsErr, errOf, hlong], (Below.refl _ _).alloc (Nat.le_refl _) _⟩
  · have hd : decide ((12 : Int) < (xs.length : Int)) = false := by simp; omega
    have hcell : (w.alloc (.cells #[.func (.func 89) #[] #[]] 138)).cell? ⟨w.heap.size, 0, none⟩ = some (.func (.func 89) #[] #[]) := by simp
    have hb0 : Below w.heap.size w (w.alloc (.cells #[.func (.func 89) #[] #[]] 138)) := (Below.refl _ _).alloc (Nat.le_refl _) _
    have hhas := sheet_has (fun x => !Sheet.okB x) N w.heap.size xs a cap (w.alloc (.cells #[.func (.func 89) #[] #[]] 138)) (by simp; omega) (hr.later (hb0.mono hN)) hl
      (fun x c0 c1 W hW hR => sheetNo_any x c0 c1 N w.heap.size W (by have := hW.size; simp at this; omega) hR (by rw [(bcell hW).1 _ _ (by simp)]; exact hcell))
    have Hhas := Lib.hid hhas; clear hhas
    clear hcell
    cases hany : xs.any (fun x => !Sheet.okB x)
    · rw [hany] at Hhas
      have Hany := Lib.hid hany; clear hany
      go_enter Tryz.func88, Tryz.ntmps88
      go_wp2_with (go_at_call 116; refine Hhas.out.mono ?_; rintro e w1 ⟨rfl, hb1⟩)
      have hbw : Below w.heap.size w w1 := hb0.trans (hb1.mono (by simp))
      clear hb0 hb1
      go_loopw [21] (fun i wr => ∃ k : Nat, k ≤ xs.length ∧ i = .int .i64 k ∧ Below w.heap.size w wr ∧ risesB ((xs.take k).map Sheet.meter) = true) (fun i _ => xs.length - (intOf i).toNat)
      case atStart => exact ⟨0, Nat.zero_le _, rfl, hbw, by simp [risesB]⟩
      case round =>
        obtain ⟨k, hk, rfl, hbr, hris⟩ := hrel
        have HA := Lib.hid hris; clear hris hbw
        by_cases hlt : k < xs.length
        · by_cases hk0 : k = 0
          · have hg : decide ((0 : Int) < (k : Int)) = false := by simp; omega
            go_wp2_with fail
            refine wp_region_later w.heap.size w hbr (by kernel_rfl) (by kernel_rfl) ?_
            repeat (go_big_quiet_step (fail))
            refine wpQuiet_nil ?_
            rintro _ ⟨x, rfl⟩
            go_wp2
            go_roundw
            case rel => exact ⟨k + 1, by omega, by go_num, x.below, by subst hk0; exact rises_take1 _ _⟩
            case measure => simp [intOf]; omega
          · obtain ⟨j, rfl⟩ : ∃ j, k = j + 1 := ⟨k - 1, by omega⟩
            obtain ⟨b, off, c0, c1, rfl, hbN, hR, hc0, hc1⟩ := rows2 hr (j + 1) hlt
            obtain ⟨b', off', d0, d1, hab, hbN', hR', hd0, hd1⟩ := rows2 hr j (by omega)
            obtain ⟨rfl, rfl⟩ : b = b' ∧ off = off' := by simpa using hab
            have hg : decide ((0 : Int) < ((j + 1 : Nat) : Int)) = true := decide_eq_true (by omega)
            have hg2 : decide ((0 : Int) < (j : Int) + 1) = true := decide_eq_true (by omega)
            have gc0 : ∀ x : Later w.heap.size w, x.val.cell? ⟨b, off + (j + 1) * 2, none⟩ = some c0 := fun x => (x.below.cell (p := ⟨b, off + (j + 1) * 2, none⟩) (by show b < _; omega)).trans hc0
            have gc1 : ∀ x : Later w.heap.size w, x.val.cell? ⟨b, off + (j + 1) * 2 + 1, none⟩ = some c1 := fun x => (x.below.cell (p := ⟨b, off + (j + 1) * 2 + 1, none⟩) (by show b < _; omega)).trans hc1
            have gd0 : ∀ x : Later w.heap.size w, x.val.cell? ⟨b, off + j * 2, none⟩ = some d0 := fun x => (x.below.cell (p := ⟨b, off + j * 2, none⟩) (by show b < _; omega)).trans hd0
            have gd1 : ∀ x : Later w.heap.size w, x.val.cell? ⟨b, off + j * 2 + 1, none⟩ = some d1 := fun x => (x.below.cell (p := ⟨b, off + j * 2 + 1, none⟩) (by show b < _; omega)).trans hd1
            have hn1 := fun (x : Later w.heap.size w) => Calls.later_of (x := x) (B := w.heap.size) (Nat.le_refl _) (sheetNumber_any xs[j + 1] c0 c1 N x.val (Rd.stay hR (x.below.mono hN)))
            have hn2 := fun (x : Later w.heap.size w) => Calls.later_of (x := x) (B := w.heap.size) (Nat.le_refl _) (sheetNumber_any xs[j] d0 d1 N x.val (Rd.stay hR' (x.below.mono hN)))
            clear hc0 hc1 hd0 hd1 hR hR' hab
            have Hn1 := Lib.hid hn1; clear hn1
            have Hn2 := Lib.hid hn2; clear hn2
            have hsnoc := rises_snoc Sheet.meter xs j hlt HA.out
            generalize Sheet.meter xs[j + 1] = n1 at *
            generalize Sheet.meter xs[j] = n2 at *
            have Hsnoc := Lib.hid hsnoc; clear hsnoc
            by_cases hle : n1 ≤ n2
            · have hle' : decide (n1 ≤ n2) = true := by simpa using hle
              go_wp2_with fail
              refine wp_region_later w.heap.size w hbr (by kernel_rfl) (by kernel_rfl) ?_
              repeat (go_big_quiet_step (first | exact Hn1.out _ | exact Hn2.out _))
              refine wpQuiet_nil ?_
              rintro _ ⟨x, rfl⟩
              go_wp2
              go_ret
              exact ⟨by simp [sheetsErr, errOf, hlong, all_of_any Hany.out, Hsnoc.out.2 hle], x.below⟩
            · have hle' : decide (n1 ≤ n2) = false := by simpa using hle
              go_wp2_with fail
              refine wp_region_later w.heap.size w hbr (by kernel_rfl) (by kernel_rfl) ?_
              repeat (go_big_quiet_step (first | exact Hn1.out _ | exact Hn2.out _))
              refine wpQuiet_nil ?_
              rintro _ ⟨x, rfl⟩
              go_wp2
              go_roundw
              case rel => exact ⟨j + 1 + 1, by omega, by go_num, x.below, Hsnoc.out.1 (by omega)⟩
              case measure => simp [intOf]; omega
        · go_wp2
          go_ret
          obtain rfl : k = xs.length := by omega
          have hall := HA.out
          rw [List.take_length] at hall
          exact ⟨by simp [sheetsErr, errOf, hlong, hall, all_of_any Hany.out], hbr⟩
    · rw [hany] at Hhas
      have Hany := Lib.hid hany; clear hany
      go_enter Tryz.func88, Tryz.ntmps88
      go_wp2_with (go_at_call 116; refine Hhas.out.mono ?_; rintro e w1 ⟨rfl, hb1⟩)
      go_ret
      exact ⟨by simp [sheetsErr, errOf, hlong, all_of_any' Hany.out], hb0.trans (hb1.mono (by simp))⟩

theorem sheetError_any (N : Nat) (xs : List Sheet) (a : Option Addr) (cap : Nat) (w : World) (hN : N ≤ w.heap.size) (hr : RowsR sheetR 2 N w a xs) (hl : xs.length ≤ 9223372036854775807) :
    Calls Tryz.prog 53 #[.slice a xs.length cap] w fun e w' => e = .returned (.int .i64 (sheetsErr xs)) ∧ Below w.heap.size w w' := by
  have h := sheetErrorOf_any N xs a cap w hN hr hl
  have H := Lib.hid h; clear h
  go_enter Tryz.func53, Tryz.ntmps53
  go_wp2_with (go_at_call 88; refine H.out.mono ?_; rintro e w' ⟨rfl, hb⟩)
  go_ret
  exact ⟨rfl, hb⟩

theorem plateError_any (N : Nat) (xs : List Plate) (a : Option Addr) (cap : Nat) (w : World) (hN : N ≤ w.heap.size) (hr : RowsR plateR 3 N w a xs) (hl : xs.length ≤ 9223372036854775807) :
    Calls Tryz.prog 36 #[.slice a xs.length cap] w fun e w' => e = .returned (.int .i64 (platesErr xs)) ∧ Below w.heap.size w w' := by
  have h := plateErrorOf_any N xs a cap w hN hr hl
  have H := Lib.hid h; clear h
  go_enter Tryz.func36, Tryz.ntmps36
  go_wp2_with (go_at_call 78; refine H.out.mono ?_; rintro e w' ⟨rfl, hb⟩)
  go_ret
  exact ⟨rfl, hb⟩
end Go.Proofs.YtjmhpfedglindaaGreatDoor
