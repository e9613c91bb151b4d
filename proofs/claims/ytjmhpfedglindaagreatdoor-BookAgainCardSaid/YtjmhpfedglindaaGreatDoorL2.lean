/- L2: long. -/
import Derived.Test.YtjmhpfedglindaaGreatDoorL0
set_option linter.unusedVariables false
set_option linter.unusedSimpArgs false
namespace Go.Proofs.YtjmhpfedglindaaGreatDoor
open Go.RowKit

/-- Far more than a statement looks at. -/
def longB (s : List Sheet) (p : Nat) (g : List Page) : Bool :=
  s.any (fun x => decide (10 < x.tries.length)) || g.any (fun x => decide (24 < x.readings.length)) || decide (18 < s.length) || decide (70 < p) || decide (40 < g.length)
theorem any_take {α : Type} (f : α → Bool) (l : List α) (k : Nat) (h : k < l.length) (h0 : (l.take k).any f = false) : (l.take (k + 1)).any f = f l[k] := by
  rw [List.take_succ_eq_append_getElem h, List.any_append, h0]; simp

set_option maxRecDepth 100000 in
set_option maxHeartbeats 4000000 in
theorem long_any (N : Nat) (xs : List Sheet) (p : Nat) (ys : List Page) (a b d : Option Addr) (ca cb cd : Nat) (w : World) (hN : N ≤ w.heap.size) (hx : RowsR sheetR 2 N w a xs) (hy : RowsR pageR 2 N w b ys) (hl : xs.length ≤ 9223372036854775807) (hm : ys.length ≤ 9223372036854775807) (hp : p ≤ 9223372036854775807) :
    Calls Tryz.prog 12 #[.slice a xs.length ca, .slice d p cd, .slice b ys.length cb] w fun e W => e = .returned (.bool (longB xs p ys)) ∧ Below w.heap.size w W := by
  go_enter Tryz.func12, Tryz.ntmps12
  go_wp2_with fail
  go_loopw [13] (fun i wr => ∃ k : Nat, k ≤ xs.length ∧ i = .int .i64 k ∧ (xs.take k).any (fun x => decide (10 < x.tries.length)) = false ∧ Below w.heap.size w wr) (fun i _ => xs.length - (intOf i).toNat)
  case atStart => exact ⟨0, Nat.zero_le _, rfl, rfl, Below.refl _ _⟩
  case round =>
    obtain ⟨k, hk, rfl, hany, hbr⟩ := hrel
    have hwr := hbr.size
    by_cases hlt : k < xs.length
    · obtain ⟨sb, soff, c0, c1, rfl, hsN, hR, hd0, hd1⟩ := rows2 hx k hlt
      have hc0 := (hbr.cell (p := ⟨sb, soff + k * 2, none⟩) (Nat.lt_of_lt_of_le hsN hN)).trans hd0
      have hc1 := (hbr.cell (p := ⟨sb, soff + k * 2 + 1, none⟩) (Nat.lt_of_lt_of_le hsN hN)).trans hd1
      clear hd0 hd1
      obtain ⟨ta, tcap, hcs, htl, htc, htr⟩ := hR
      simp only [List.cons.injEq, and_true] at hcs
      obtain ⟨rfl, rfl⟩ := hcs
      have hat := any_take (fun x => decide (10 < x.tries.length)) xs k hlt hany
      have hin : xs[k] ∈ xs := List.getElem_mem _
      have Hat := Lib.hid hat; clear hat hany
      have Hin := Lib.hid hin; clear hin
      generalize xs[k] = x at *
      have hbx := hbr.alloc hbr.size (.cells #[.int .i64 x.meter, .slice ta x.tries.length tcap] 46)
      by_cases h10 : 10 < x.tries.length
      · have hd : decide ((10 : Int) < (x.tries.length : Int)) = true := decide_eq_true (by omega)
        go_wp2_with fail
        go_ret
        refine ⟨?_, hbx⟩
        have : xs.any (fun x => decide (10 < x.tries.length)) = true := List.any_eq_true.2 ⟨x, Hin.out, by simp [h10]⟩
        simp [longB, this]
      · have hd : decide ((10 : Int) < (x.tries.length : Int)) = false := decide_eq_false (by omega)
        go_wp2_with fail
        go_roundw
        case rel => exact ⟨k + 1, by omega, by go_num, by rw [Hat.out]; simp [h10], hbx⟩
        case measure => simp [intOf]; omega
    · obtain rfl : k = xs.length := by omega
      rw [List.take_length] at hany
      have Hany := Lib.hid hany; clear hany
      obtain ⟨wo, rfl⟩ : ∃ wo : World, wo = wr := ⟨_, rfl⟩
      go_wp2_with fail
      go_loopw [24] (fun i wr => ∃ k : Nat, k ≤ ys.length ∧ i = .int .i64 k ∧ (ys.take k).any (fun x => decide (24 < x.readings.length)) = false ∧ Below w.heap.size w wr) (fun i _ => ys.length - (intOf i).toNat)
      case atStart => exact ⟨0, Nat.zero_le _, rfl, rfl, hbr⟩
      case round =>
        obtain ⟨k, hk, rfl, hany, hbr⟩ := hrel
        have hwr := hbr.size
        by_cases hlt : k < ys.length
        · obtain ⟨sb, soff, c0, c1, rfl, hsN, hR, hd0, hd1⟩ := rows2 hy k hlt
          have hc0 := (hbr.cell (p := ⟨sb, soff + k * 2, none⟩) (Nat.lt_of_lt_of_le hsN hN)).trans hd0
          have hc1 := (hbr.cell (p := ⟨sb, soff + k * 2 + 1, none⟩) (Nat.lt_of_lt_of_le hsN hN)).trans hd1
          clear hd0 hd1
          obtain ⟨ta, tcap, hcs, htl, htc, htr⟩ := hR
          simp only [List.cons.injEq, and_true] at hcs
          obtain ⟨rfl, rfl⟩ := hcs
          have hat := any_take (fun x => decide (24 < x.readings.length)) ys k hlt hany
          have hin : ys[k] ∈ ys := List.getElem_mem _
          have Hat := Lib.hid hat; clear hat hany
          have Hin := Lib.hid hin; clear hin
          generalize ys[k] = x at *
          have hbx := hbr.alloc hbr.size (.cells #[.int .i64 x.house, .slice ta x.readings.length tcap] 49)
          by_cases h24 : 24 < x.readings.length
          · have hd : decide ((24 : Int) < (x.readings.length : Int)) = true := decide_eq_true (by omega)
            go_wp2_with fail
            go_ret
            refine ⟨?_, hbx⟩
            have : ys.any (fun x => decide (24 < x.readings.length)) = true := List.any_eq_true.2 ⟨x, Hin.out, by simp [h24]⟩
            simp [longB, this]
          · have hd : decide ((24 : Int) < (x.readings.length : Int)) = false := decide_eq_false (by omega)
            go_wp2_with fail
            go_roundw
            case rel => exact ⟨k + 1, by omega, by go_num, by rw [Hat.out]; simp [h24], hbx⟩
            case measure => simp [intOf]; omega
        · obtain rfl : k = ys.length := by omega
          rw [List.take_length] at hany
          have hlb : longB xs p ys = (decide (18 < xs.length) || decide (70 < p) || decide (40 < ys.length)) := by simp only [longB, hany, Hany.out, Bool.false_or]
          have Hlb := Lib.hid hlb; clear hlb hany
          by_cases g1 : 18 < xs.length
          · have hd1 : decide ((18 : Int) < (xs.length : Int)) = true := decide_eq_true (by omega)
            go_wp2_with fail
            go_ret
            exact ⟨by rw [Hlb.out]; simp [g1], hbr⟩
          · have hd1 : decide ((18 : Int) < (xs.length : Int)) = false := decide_eq_false (by omega)
            by_cases g2 : 70 < p
            · have hd2 : decide ((70 : Int) < (p : Int)) = true := decide_eq_true (by omega)
              go_wp2_with fail
              go_ret
              exact ⟨by rw [Hlb.out]; simp [g1, g2], hbr⟩
            · have hd2 : decide ((70 : Int) < (p : Int)) = false := decide_eq_false (by omega)
              by_cases g3 : 40 < ys.length
              · have hd3 : decide ((40 : Int) < (ys.length : Int)) = true := decide_eq_true (by omega)
                go_wp2_with fail
                go_ret
                exact ⟨by rw [Hlb.out]; simp [g1, g2, g3], hbr⟩
              · have hd3 : decide ((40 : Int) < (ys.length : Int)) = false := decide_eq_false (by omega)
                go_wp2_with fail
                go_ret
                exact ⟨by rw [Hlb.out]; simp [g1, g2, g3], hbr⟩
end Go.Proofs.YtjmhpfedglindaaGreatDoor
