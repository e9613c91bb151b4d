/- A1: the errors of lists: plates. -/
import Derived.Test.YtjmhpfedglindaaGreatDoorA0
set_option linter.unusedVariables false
set_option linter.unusedSimpArgs false
namespace Go.Proofs.YtjmhpfedglindaaGreatDoor
open Go.RowKit

theorem any_take_succ {α : Type} (p : α → Bool) (xs : List α) (k : Nat) (h : k < xs.length) : (xs.take (k + 1)).any p = ((xs.take k).any p || p xs[k]) := by
  rw [List.take_succ_eq_append_getElem h, List.any_append]; simp
theorem any_of_at {α : Type} (p : α → Bool) (xs : List α) (k : Nat) (h : k < xs.length) (hp : p xs[k] = true) : xs.any p = true :=
  List.any_eq_true.2 ⟨xs[k], List.getElem_mem h, hp⟩
theorem all_of_any {α : Type} {p : α → Bool} {xs : List α} (h : xs.any (fun x => !p x) = false) : xs.all p = true := by
  rw [List.any_eq_false] at h; rw [List.all_eq_true]; intro x hx; have := h x hx; simpa using this
theorem all_of_any' {α : Type} {p : α → Bool} {xs : List α} (h : xs.any (fun x => !p x) = true) : ¬ xs.all p = true := by
  intro h'; rw [List.any_eq_true] at h; rw [List.all_eq_true] at h'; obtain ⟨x, hx, hp⟩ := h; simp [h' x hx] at hp
theorem rises_take1 {α : Type} (num : α → Int) (xs : List α) : risesB ((xs.take (0 + 1)).map num) = true := by
  cases xs <;> simp [risesB]
theorem risesB_one (a : Int) : risesB [a] = true := rfl
theorem risesB_iff (l : List Int) : risesB l = true ↔ ∀ j (h : j + 1 < l.length), l[j] < l[j + 1] := by
  match l with
  | [] => simp [risesB]
  | [a] => simp [risesB]
  | a :: b :: l =>
    rw [risesB, Bool.and_eq_true, decide_eq_true_eq, risesB_iff (b :: l)]
    constructor
    · rintro ⟨h1, h2⟩ j hj
      cases j with
      | zero => exact h1
      | succ j => exact h2 j (by simpa using hj)
    · intro h
      exact ⟨h 0 (by simp), fun j hj => h (j + 1) (by simpa using hj)⟩
theorem rises_snoc {α : Type} (num : α → Int) (xs : List α) (j : Nat) (h : j + 1 < xs.length) (hr : risesB ((xs.take (j + 1)).map num) = true) :
    (num xs[j] < num xs[j + 1] → risesB ((xs.take (j + 1 + 1)).map num) = true) ∧ (num xs[j + 1] ≤ num xs[j] → ¬ risesB (xs.map num) = true) := by
  constructor
  · intro hlt
    rw [risesB_iff] at hr ⊢
    intro i hi
    simp at hi
    by_cases hij : i = j
    · subst hij; simpa using hlt
    · have := hr i (by simp; omega)
      simpa using this
  · intro hle hall
    rw [risesB_iff] at hall
    have := hall j (by simpa using h)
    simp at this
    omega

theorem plateNo_any (x : Plate) (c0 c1 c2 : Value) (N B : Nat) (w : World) (hN : N ≤ w.heap.size) (hR : plateR N w x [c0, c1, c2]) (hc : w.cell? ⟨B, 0, none⟩ = some (.func (.func 79) #[] #[])) :
    Calls Tryz.prog 110 #[.agg #[c0, c1, c2], .pointer (some ⟨B, 0, none⟩)] w fun e w' => e = .returned (.bool (!Plate.okB x)) ∧ Below w.heap.size w w' := by
  have h0 : B < w.heap.size := World.block_lt_of_cell? w ⟨B, 0, none⟩ hc
  have hp := fun W (hW : Below w.heap.size w W) => isPlate_any x c0 c1 c2 N W (by have := hW.size; omega) (Rd.stay hR (hW.mono hN))
  have Hp := Lib.hid hp; clear hp
  have HR := Lib.hid hR; clear hR
  generalize Plate.okB x = r at *
  go_enter Tryz.func110, Tryz.ntmps110
  go_wp2_with (go_at_call 79; refine (Hp.out _ ((Below.refl _ _).alloc (Nat.le_refl _) _)).mono ?_; rintro e w' ⟨rfl, hb⟩)
  go_ret
  exact ⟨rfl, ((Below.refl _ _).alloc (Nat.le_refl _) _).trans (hb.mono (by simp))⟩

theorem plate_idx (p : Plate → Bool) (N : Nat) (B : Nat) (xs : List Plate) (a : Option Addr) (cap : Nat) (w : World) (hN : N ≤ w.heap.size) (hr : RowsR plateR 3 N w a xs) (hl : xs.length ≤ 9223372036854775807)
    (hf : ∀ x c0 c1 c2 W, Below w.heap.size w W → plateR N W x [c0, c1, c2] → Calls Tryz.prog 110 #[.agg #[c0, c1, c2], .pointer (some ⟨B, 0, none⟩)] W fun e w' => e = .returned (.bool (p x)) ∧ Below W.heap.size W w') :
    Calls Tryz.prog 139 #[.slice a xs.length cap, .func (.func 110) #[] #[.pointer (some ⟨B, 0, none⟩)]] w
      fun e w' => (∃ r : Int, e = .returned (.int .i64 r) ∧ decide (0 ≤ r) = xs.any p) ∧ Below w.heap.size w w' := by
  have Hf := Lib.hid hf; clear hf
  go_enter Tryz.func139, Tryz.ntmps139
  go_wp2
  go_loopw [8] (fun i wr => ∃ k : Nat, k ≤ xs.length ∧ i = .int .i64 k ∧ Below w.heap.size w wr ∧ (xs.take k).any p = false) (fun i _ => xs.length - (intOf i).toNat)
  case atStart => exact ⟨0, Nat.zero_le _, rfl, Below.refl _ _, by simp⟩
  case round =>
    obtain ⟨k, hk, rfl, hbr, hany⟩ := hrel
    have HA := Lib.hid hany; clear hany
    by_cases hlt : k < xs.length
    · obtain ⟨b, off, c0, c1, c2, rfl, hbN, hR, hc0, hc1, hc2⟩ := rows3 (hr.later (hbr.mono hN)) k hlt
      have hno := Hf.out xs[k] c0 c1 c2 wr hbr hR
      have Hno := Lib.hid hno; clear hno
      have HR := Lib.hid hR; clear hR
      cases hp : p xs[k]
      · rw [hp] at Hno
        have Hp := Lib.hid hp; clear hp
        go_wp2_with (go_at_call 110; refine Hno.out.mono ?_; rintro e w' ⟨rfl, hb'⟩)
        go_roundw
        case rel => exact ⟨k + 1, by omega, by go_num, hbr.trans (hb'.mono hbr.size), by rw [any_take_succ _ _ _ hlt, HA.out, Hp.out]; rfl⟩
        case measure => simp [intOf]; omega
      · rw [hp] at Hno
        have Hp := Lib.hid hp; clear hp
        go_wp2_with (go_at_call 110; refine Hno.out.mono ?_; rintro e w' ⟨rfl, hb'⟩)
        go_ret
        exact ⟨⟨k, rfl, by rw [any_of_at _ _ _ hlt Hp.out]; simp⟩, hbr.trans (hb'.mono hbr.size)⟩
    · go_wp2
      go_ret
      obtain rfl : k = xs.length := by omega
      have hall := HA.out
      rw [List.take_length] at hall
      exact ⟨⟨-1, rfl, by rw [hall]; rfl⟩, hbr⟩

theorem plate_has (p : Plate → Bool) (N : Nat) (B : Nat) (xs : List Plate) (a : Option Addr) (cap : Nat) (w : World) (hN : N ≤ w.heap.size) (hr : RowsR plateR 3 N w a xs) (hl : xs.length ≤ 9223372036854775807)
    (hf : ∀ x c0 c1 c2 W, Below w.heap.size w W → plateR N W x [c0, c1, c2] → Calls Tryz.prog 110 #[.agg #[c0, c1, c2], .pointer (some ⟨B, 0, none⟩)] W fun e w' => e = .returned (.bool (p x)) ∧ Below W.heap.size W w') :
    Calls Tryz.prog 109 #[.slice a xs.length cap, .func (.func 110) #[] #[.pointer (some ⟨B, 0, none⟩)]] w
      fun e w' => e = .returned (.bool (xs.any p)) ∧ Below w.heap.size w w' := by
  have Hi := Lib.hid (plate_idx p N B xs a cap w hN hr hl hf)
  clear hf
  generalize xs.any p = q at *
  go_enter Tryz.func109, Tryz.ntmps109
  go_wp2_with (go_at_call 139; refine Hi.out.mono ?_; rintro e w' ⟨⟨r, rfl, hr'⟩, hb'⟩; have Hr := Lib.hid hr'; clear hr')
  go_ret
  exact ⟨by rw [← Hr.out]; rfl, hb'⟩

set_option maxRecDepth 100000 in
set_option maxHeartbeats 1000000 in
theorem plateErrorOf_any (N : Nat) (xs : List Plate) (a : Option Addr) (cap : Nat) (w : World) (hN : N ≤ w.heap.size) (hr : RowsR plateR 3 N w a xs) (hl : xs.length ≤ 9223372036854775807) :
    Calls Tryz.prog 78 #[.slice a xs.length cap, .int .i64 60, .func (.func 79) #[] #[], .func (.func 80) #[] #[]] w
      fun e w' => e = .returned (.int .i64 (platesErr xs)) ∧ Below w.heap.size w w' := by
  have hmf : ∀ (fn : Fn) (first cap : Array Value) (w : World), (Instr.makeFunc fn first cap).run Tryz.prog w = .ok (.func fn first cap) w := fun _ _ _ _ => rfl
  by_cases hlong : 60 < xs.length
  · have hd : decide ((60 : Int) < (xs.length : Int)) = true := by simp; omega
    go_enter Tryz.func78, Tryz.ntmps78
    go_wp2
    go_ret
    exact ⟨by simp [platesErr, errOf, hlong], (Below.refl _ _).alloc (Nat.le_refl _) _⟩
  · have hd : decide ((60 : Int) < (xs.length : Int)) = false := by simp; omega
    have hcell : (w.alloc (.cells #[.func (.func 79) #[] #[]] 123)).cell? ⟨w.heap.size, 0, none⟩ = some (.func (.func 79) #[] #[]) := by simp
    have hb0 : Below w.heap.size w (w.alloc (.cells #[.func (.func 79) #[] #[]] 123)) := (Below.refl _ _).alloc (Nat.le_refl _) _
    have hhas := plate_has (fun x => !Plate.okB x) N w.heap.size xs a cap (w.alloc (.cells #[.func (.func 79) #[] #[]] 123)) (by simp; omega) (hr.later (hb0.mono hN)) hl
      (fun x c0 c1 c2 W hW hR => plateNo_any x c0 c1 c2 N w.heap.size W (by have := hW.size; simp at this; omega) hR (by rw [(bcell hW).1 _ _ (by simp)]; exact hcell))
    have Hhas := Lib.hid hhas; clear hhas
    clear hcell
    cases hany : xs.any (fun x => !Plate.okB x)
    · rw [hany] at Hhas
      have Hany := Lib.hid hany; clear hany
      go_enter Tryz.func78, Tryz.ntmps78
      go_wp2_with (go_at_call 109; refine Hhas.out.mono ?_; rintro e w1 ⟨rfl, hb1⟩)
      have hbw : Below w.heap.size w w1 := hb0.trans (hb1.mono (by simp))
      clear hb0 hb1
      go_loopw [21] (fun i wr => ∃ k : Nat, k ≤ xs.length ∧ i = .int .i64 k ∧ Below w.heap.size w wr ∧ risesB ((xs.take k).map Plate.number) = true) (fun i _ => xs.length - (intOf i).toNat)
      case atStart => exact ⟨0, Nat.zero_le _, rfl, hbw, by simp [risesB]⟩
      case round =>
        obtain ⟨k, hk, rfl, hbr, hris⟩ := hrel
        have HA := Lib.hid hris; clear hris hbw
        by_cases hlt : k < xs.length
        · by_cases hk0 : k = 0
          · have hg : decide ((0 : Int) < (k : Int)) = false := by simp; omega
            go_wp2_with fail
            refine wp_region_later w.heap.size w hbr (by kernel_rfl) (by kernel_rfl) ?_
            repeat (go_big_quiet_step (fail))
            refine wpQuiet_nil ?_
            rintro _ ⟨x, rfl⟩
            go_wp2
            go_roundw
            case rel => exact ⟨k + 1, by omega, by go_num, x.below, by subst hk0; exact rises_take1 _ _⟩
            case measure => simp [intOf]; omega
          · obtain ⟨j, rfl⟩ : ∃ j, k = j + 1 := ⟨k - 1, by omega⟩
            obtain ⟨b, off, c0, c1, c2, rfl, hbN, hR, hc0, hc1, hc2⟩ := rows3 hr (j + 1) hlt
            obtain ⟨b', off', d0, d1, d2, hab, hbN', hR', hd0, hd1, hd2⟩ := rows3 hr j (by omega)
            obtain ⟨rfl, rfl⟩ : b = b' ∧ off = off' := by simpa using hab
            have hg : decide ((0 : Int) < ((j + 1 : Nat) : Int)) = true := decide_eq_true (by omega)
            have hg2 : decide ((0 : Int) < (j : Int) + 1) = true := decide_eq_true (by omega)
            have gc0 : ∀ x : Later w.heap.size w, x.val.cell? ⟨b, off + (j + 1) * 3, none⟩ = some c0 := fun x => (x.below.cell (p := ⟨b, off + (j + 1) * 3, none⟩) (by show b < _; omega)).trans hc0
            have gc1 : ∀ x : Later w.heap.size w, x.val.cell? ⟨b, off + (j + 1) * 3 + 1, none⟩ = some c1 := fun x => (x.below.cell (p := ⟨b, off + (j + 1) * 3 + 1, none⟩) (by show b < _; omega)).trans hc1
            have gc2 : ∀ x : Later w.heap.size w, x.val.cell? ⟨b, off + (j + 1) * 3 + 2, none⟩ = some c2 := fun x => (x.below.cell (p := ⟨b, off + (j + 1) * 3 + 2, none⟩) (by show b < _; omega)).trans hc2
            have gd0 : ∀ x : Later w.heap.size w, x.val.cell? ⟨b, off + j * 3, none⟩ = some d0 := fun x => (x.below.cell (p := ⟨b, off + j * 3, none⟩) (by show b < _; omega)).trans hd0
            have gd1 : ∀ x : Later w.heap.size w, x.val.cell? ⟨b, off + j * 3 + 1, none⟩ = some d1 := fun x => (x.below.cell (p := ⟨b, off + j * 3 + 1, none⟩) (by show b < _; omega)).trans hd1
            have gd2 : ∀ x : Later w.heap.size w, x.val.cell? ⟨b, off + j * 3 + 2, none⟩ = some d2 := fun x => (x.below.cell (p := ⟨b, off + j * 3 + 2, none⟩) (by show b < _; omega)).trans hd2
            have hn1 := fun (x : Later w.heap.size w) => Calls.later_of (x := x) (B := w.heap.size) (Nat.le_refl _) (plateNumber_any xs[j + 1] c0 c1 c2 N x.val (Rd.stay hR (x.below.mono hN)))
            have hn2 := fun (x : Later w.heap.size w) => Calls.later_of (x := x) (B := w.heap.size) (Nat.le_refl _) (plateNumber_any xs[j] d0 d1 d2 N x.val (Rd.stay hR' (x.below.mono hN)))
            clear hc0 hc1 hc2 hd0 hd1 hd2 hR hR' hab
            have Hn1 := Lib.hid hn1; clear hn1
            have Hn2 := Lib.hid hn2; clear hn2
            have hsnoc := rises_snoc Plate.number xs j hlt HA.out
            generalize Plate.number xs[j + 1] = n1 at *
            generalize Plate.number xs[j] = n2 at *
            have Hsnoc := Lib.hid hsnoc; clear hsnoc
            by_cases hle : n1 ≤ n2
            · have hle' : decide (n1 ≤ n2) = true := by simpa using hle
              go_wp2_with fail
              refine wp_region_later w.heap.size w hbr (by kernel_rfl) (by kernel_rfl) ?_
              repeat (go_big_quiet_step (first | exact Hn1.out _ | exact Hn2.out _))
              refine wpQuiet_nil ?_
              rintro _ ⟨x, rfl⟩
              go_wp2
              go_ret
              exact ⟨by simp [platesErr, errOf, hlong, all_of_any Hany.out, Hsnoc.out.2 hle], x.below⟩
            · have hle' : decide (n1 ≤ n2) = false := by simpa using hle
              go_wp2_with fail
              refine wp_region_later w.heap.size w hbr (by kernel_rfl) (by kernel_rfl) ?_
              repeat (go_big_quiet_step (first | exact Hn1.out _ | exact Hn2.out _))
              refine wpQuiet_nil ?_
              rintro _ ⟨x, rfl⟩
              go_wp2
              go_roundw
              case rel => exact ⟨j + 1 + 1, by omega, by go_num, x.below, Hsnoc.out.1 (by omega)⟩
              case measure => simp [intOf]; omega
        · go_wp2
          go_ret
          obtain rfl : k = xs.length := by omega
          have hall := HA.out
          rw [List.take_length] at hall
          exact ⟨by simp [platesErr, errOf, hlong, hall, all_of_any Hany.out], hbr⟩
    · rw [hany] at Hhas
      have Hany := Lib.hid hany; clear hany
      go_enter Tryz.func78, Tryz.ntmps78
      go_wp2_with (go_at_call 109; refine Hhas.out.mono ?_; rintro e w1 ⟨rfl, hb1⟩)
      go_ret
      exact ⟨by simp [platesErr, errOf, hlong, all_of_any' Hany.out], hb0.trans (hb1.mono (by simp))⟩
end Go.Proofs.YtjmhpfedglindaaGreatDoor
