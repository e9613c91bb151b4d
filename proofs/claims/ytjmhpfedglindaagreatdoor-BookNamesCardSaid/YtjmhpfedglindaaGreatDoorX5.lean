/- X5: SamePages. -/
import Derived.Test.YtjmhpfedglindaaGreatDoorX4
set_option linter.unusedVariables false
set_option linter.unusedSimpArgs false
namespace Go.Proofs.YtjmhpfedglindaaGreatDoor
open Go.RowKit

theorem page_ext {x y : Page} (h1 : x.house = y.house) (h2 : x.readings = y.readings) : x = y := by
  cases x; cases y; simp_all
theorem ne_at {α : Type} {xs ys : List α} {k : Nat} (h1 : k < xs.length) (h2 : k < ys.length) (h : xs[k] ≠ ys[k]) : xs ≠ ys := by
  rintro rfl; exact h rfl

set_option maxRecDepth 100000 in
set_option maxHeartbeats 4000000 in
theorem samePages_any (N : Nat) (xs ys : List Page) (a b : Option Addr) (c d : Nat) (w : World) (hN : N ≤ w.heap.size) (hx : RowsR pageR 2 N w a xs) (hy : RowsR pageR 2 N w b ys) (hl : xs.length ≤ 100000) (hm : ys.length ≤ 100000) :
    Calls Tryz.prog 24 #[.slice a xs.length c, .slice b ys.length d] w fun e W => e = .returned (.bool (decide (xs = ys))) ∧ Below w.heap.size w W := by
  by_cases hlen : xs.length = ys.length
  · have hle : ((xs.length : Int) != (ys.length : Int)) = false := by simp; omega
    have Hlen := Lib.hid hlen; clear hlen
    go_enter Tryz.func24, Tryz.ntmps24
    go_wp2_with fail
    go_loopw [5] (fun i wr => ∃ k : Nat, k ≤ xs.length ∧ i = .int .i64 k ∧ xs.take k = ys.take k ∧ Below w.heap.size w wr) (fun i _ => xs.length - (intOf i).toNat)
    case atStart => exact ⟨0, Nat.zero_le _, rfl, rfl, Below.refl _ _⟩
    case round =>
      obtain ⟨k, hk, rfl, htk, hbr⟩ := hrel
      have Htk := Lib.hid htk; clear htk
      clear hle
      by_cases hlt : k < xs.length
      · have hky : k < ys.length := by have := Hlen.out; omega
        obtain ⟨b1, o1, c0, c1, rfl, hN1, hR1, hd0, hd1⟩ := rows2 (hx.later (hbr.mono hN)) k hlt
        obtain ⟨b2, o2, e0, e1, rfl, hN2, hR2, he0, he1⟩ := rows2 (hy.later (hbr.mono hN)) k hky
        obtain ⟨ta, tcap, hcs1, htl1, htc1, htr1⟩ := hR1
        obtain ⟨ub, ucap, hcs2, htl2, htc2, htr2⟩ := hR2
        simp only [List.cons.injEq, and_true] at hcs1 hcs2
        obtain ⟨rfl, rfl⟩ := hcs1
        obtain ⟨rfl, rfl⟩ := hcs2
        have hky' : (k : Int) < (ys.length : Int) := by omega
        have hkx' : (k : Int) < (xs.length : Int) := by omega
        have hk0 : (0 : Int) ≤ (k : Int) := by omega
        have hs1 := List.take_succ_eq_append_getElem hlt
        have hs2 := List.take_succ_eq_append_getElem hky
        have hex := fun h => ne_at hlt hky h
        have Hs1 := Lib.hid hs1; clear hs1
        have Hs2 := Lib.hid hs2; clear hs2
        have Hex := Lib.hid hex; clear hex
        generalize xs[k] = x at *
        generalize ys[k] = y at *
        by_cases hh : x.house = y.house
        · have hhb : (x.house != y.house) = false := by simpa using hh
          have Hh := Lib.hid hh; clear hh
          by_cases hll : x.readings.length = y.readings.length
          · have hlb : ((x.readings.length : Int) != (y.readings.length : Int)) = false := by simp; omega
            have Hll := Lib.hid hll; clear hll
            go_wp2_with fail
            go_quiet (fail)
            go_wp2_with fail
            have hbq := below_drewN hbr nq
            have htr1' : RowsR intR 1 N (wr.drewN nq) ta x.readings := htr1
            have htr2' : RowsR intR 1 N (wr.drewN nq) ub y.readings := htr2
            have hd1' : (wr.drewN nq).cell? ⟨b1, o1 + k * 2 + 1, none⟩ = some (.slice ta x.readings.length tcap) := hd1
            have he1' : (wr.drewN nq).cell? ⟨b2, o2 + k * 2 + 1, none⟩ = some (.slice ub y.readings.length ucap) := he1
            clear hd0 hd1 he0 he1 htr1 htr2 hhb hlb
            generalize wr.drewN nq = w5 at *
            clear hbr
            go_loopw [6] (fun i wr => ∃ j : Nat, j ≤ x.readings.length ∧ i = .int .i64 j ∧ x.readings.take j = y.readings.take j ∧ Below w.heap.size w wr ∧ Below w5.heap.size w5 wr) (fun i _ => x.readings.length - (intOf i).toNat)
            case atStart => exact ⟨0, Nat.zero_le _, rfl, rfl, hbq, Below.refl _ _⟩
            case round =>
              obtain ⟨j, hj, rfl, htj, hbw, hb5⟩ := hrel
              have hd2 := (hb5.cell (p := ⟨b1, o1 + k * 2 + 1, none⟩) (by have := hbq.size; show b1 < _; omega)).trans hd1'
              have he2 := (hb5.cell (p := ⟨b2, o2 + k * 2 + 1, none⟩) (by have := hbq.size; show b2 < _; omega)).trans he1'
              have Htj := Lib.hid htj; clear htj
              by_cases hjl : j < x.readings.length
              · have hjy : j < y.readings.length := by have := Hll.out; omega
                obtain ⟨b3, o3, c3, rfl, hN3, hR3, hd3⟩ := rows1 htr1' j hjl
                obtain ⟨b4, o4, c4, rfl, hN4, hR4, hd4⟩ := rows1 htr2' j hjy
                simp only [intR, List.cons.injEq, and_true] at hR3 hR4
                subst hR3 hR4
                have hd5 := (hb5.cell (p := ⟨b3, o3 + j, none⟩) (by have := hbq.size; show b3 < _; omega)).trans hd3
                have he5 := (hb5.cell (p := ⟨b4, o4 + j, none⟩) (by have := hbq.size; show b4 < _; omega)).trans hd4
                have hj1 := List.take_succ_eq_append_getElem hjl
                have hj2 := List.take_succ_eq_append_getElem hjy
                have hje := fun h => ne_at hjl hjy h
                have hjx' : (j : Int) < (x.readings.length : Int) := by omega
                have hjy' : (j : Int) < (y.readings.length : Int) := by omega
                have hj0 : (0 : Int) ≤ (j : Int) := by omega
                have Hj1 := Lib.hid hj1; clear hj1
                have Hj2 := Lib.hid hj2; clear hj2
                have Hje := Lib.hid hje; clear hje
                clear hd1' he1' hd3 hd4
                generalize x.readings[j] = p at *
                generalize y.readings[j] = q at *
                obtain ⟨wo, rfl⟩ : ∃ wo : World, wo = w5 := ⟨_, rfl⟩
                by_cases hpq : p = q
                · have hpb : (p != q) = false := by simpa using hpq
                  have Hpq := Lib.hid hpq; clear hpq
                  go_wp2_with fail
                  go_quiet (fail)
                  go_wp2_with fail
                  go_roundw
                  case rel => exact ⟨j + 1, by omega, by go_num, by rw [Hj1.out, Hj2.out, Htj.out, Hpq.out], below_drewN hbw _, below_drewN hb5 _⟩
                  case measure => simp [intOf]; omega
                · have hpb : (p != q) = true := by simpa using hpq
                  have Hpq := Lib.hid hpq; clear hpq
                  go_wp2_with fail
                  go_quiet (fail)
                  go_wp2_with fail
                  go_ret
                  exact ⟨by rw [decide_eq_false (Hex.out fun h => Hje.out Hpq.out (by rw [h]))]; rfl, below_drewN hbw _⟩
              · obtain rfl : j = x.readings.length := by omega
                have hrs : x.readings = y.readings := by
                  have h := Htj.out
                  rw [List.take_length, Hll.out, List.take_length] at h
                  exact h
                have hxy := page_ext Hh.out hrs
                have Hxy := Lib.hid hxy; clear hxy hrs
                go_wp2_with fail
                go_roundw
                case rel => exact ⟨k + 1, by omega, by go_num, by rw [Hs1.out, Hs2.out, Htk.out, Hxy.out], hbw⟩
                case measure => simp [intOf]; omega
          · have hlb : ((x.readings.length : Int) != (y.readings.length : Int)) = true := by simp; omega
            have hne : x ≠ y := fun h => hll (by rw [h])
            have Hne := Lib.hid hne; clear hne
            clear hll
            go_wp2_with fail
            go_quiet (fail)
            go_wp2_with fail
            go_ret
            exact ⟨by rw [decide_eq_false (Hex.out Hne.out)]; rfl, below_drewN hbr _⟩
        · have hhb : (x.house != y.house) = true := by simpa using hh
          have hne : x ≠ y := fun h => hh (by rw [h])
          have Hne := Lib.hid hne; clear hne
          clear hh
          go_wp2_with fail
          go_quiet (fail)
          go_wp2_with fail
          go_ret
          exact ⟨by rw [decide_eq_false (Hex.out Hne.out)]; rfl, below_drewN hbr _⟩
      · obtain rfl : k = xs.length := by omega
        have heq : xs = ys := by
          have h := Htk.out
          rw [List.take_length, Hlen.out, List.take_length] at h
          exact h
        have Heq := Lib.hid heq; clear heq
        go_wp2_with fail
        go_ret
        exact ⟨by rw [decide_eq_true Heq.out]; rfl, hbr⟩
  · have hle : ((xs.length : Int) != (ys.length : Int)) = true := by simp; omega
    go_enter Tryz.func24, Tryz.ntmps24
    go_wp2_with fail
    go_ret
    exact ⟨by simp; intro h; exact hlen (by rw [h]), Below.refl _ _⟩
end Go.Proofs.YtjmhpfedglindaaGreatDoor
