/- F3: the feeler: plates. -/
import Derived.Test.YtjmhpfedglindaaGreatDoorF2
set_option linter.unusedVariables false
set_option linter.unusedSimpArgs false
namespace Go.Proofs.YtjmhpfedglindaaGreatDoor
open Go.RowKit

theorem gammaP_ok : ∀ (l : List Bool) (z n : Nat) (r : List Bool), z ≤ 16 → gammaP z l = some (n, r) → n < 131072 ∧ 0 < n ∧ ∃ pre, pre ≠ [] ∧ l = pre ++ r := by
  intro l
  induction l with
  | nil => intro z n r hz h; simp [gammaP] at h
  | cons c l ih =>
    intro z n r hz h
    cases c with
    | true =>
      simp only [gammaP] at h
      split at h
      · rename_i hzl
        simp only [Option.some.injEq, Prod.mk.injEq] at h
        obtain ⟨rfl, rfl⟩ := h
        have hv := valB_lt (l.take z)
        rw [List.length_take, Nat.min_eq_left hzl] at hv
        have h2 : 2 ^ z ≤ 2 ^ 16 := Nat.pow_le_pow_right (by omega) hz
        have h3 : 0 < 2 ^ z := Nat.pow_pos (by omega)
        exact ⟨by omega, by omega, true :: l.take z, by simp, by simp⟩
      · cases h
    | false =>
      simp only [gammaP] at h
      split at h
      · rename_i h16
        obtain ⟨h1, h2, pre, _, hp⟩ := ih (z + 1) n r h16 h
        exact ⟨h1, h2, false :: pre, by simp, by simp [hp]⟩
      · cases h

/-- A plate after another one, out of bits, and the bits after it. -/
def plateP (last : Int) (l : List Bool) : Option (Plate × List Bool) :=
  match gammaP 0 l with
  | none => none
  | some (n, r) => if 22 ≤ r.length then (if (onesB l - onesB (r.drop 22)) % 2 = 0 then some (⟨last + n, valB (r.take 3), valB ((r.drop 3).take 18)⟩, r.drop 22) else none) else none

theorem IsFeeler.reset {B b : Nat} {l : List Bool} {T : Nat} {w : World} (h : IsFeeler B b l T w) : IsFeeler B b l (onesB l) (w.setCell ⟨b, 1, none⟩ (.int .i64 0)) := by
  obtain ⟨hB, a, cap, ones, hblk, hT, h1, h2, h3⟩ := h
  refine ⟨hB, a, cap, 0, ?_, by omega, h1, h2, h3.imp id ?_⟩
  · rw [block_set hblk 1 _]; simp
  · rintro ⟨g, off, ha, hgb, ⟨cs, fz, hg⟩, hc⟩
    exact ⟨g, off, ha, hgb, ⟨cs, fz, (Below.heap_setCell _ _ _ g hgb).trans hg⟩, fun j hj => (World.cell?_of_block (Below.heap_setCell _ _ _ g hgb)).trans (hc j hj)⟩
theorem IsFeeler.cell1 {B b : Nat} {l : List Bool} {T : Nat} {w : World} (h : IsFeeler B b l T w) : w.cell? ⟨b, 1, none⟩ = some (.int .i64 ((T - onesB l : Nat) : Int)) := by
  obtain ⟨hB, a, cap, ones, hblk, hT, h1, h2, h3⟩ := h
  have := cell_of_block hblk 1
  have e : T - onesB l = ones := by omega
  rw [e]; simpa using this
theorem IsFeeler.free1 {B b : Nat} {l : List Bool} {T : Nat} {w : World} (h : IsFeeler B b l T w) (i : Nat) : w.frozen? ⟨b, i, none⟩ = false := by
  obtain ⟨hB, a, cap, ones, hblk, hT, h1, h2, h3⟩ := h
  exact free_of_block hblk i
theorem IsFeeler.lt {B b : Nat} {l : List Bool} {T : Nat} {w : World} (h : IsFeeler B b l T w) : b < w.heap.size := by
  obtain ⟨hB, a, cap, ones, hblk, _⟩ := h
  exact block_lt hblk
theorem block_grown {w W : World} {b k : Nat} {o : Obj} (h : w.heap[k]? = some o) (hg : w.grownBy W (some b)) (hne : k ≠ b) : W.heap[k]? = some o :=
  (hg.block k (block_lt h) (by simp [hne])).trans h

theorem grown_set {w W : World} {b : Nat} (h : w.grownBy W (some b)) {k : Nat} (hk : w.heap.size ≤ k) (i : Nat) (v : Value) : w.grownBy (W.setCell ⟨k, i, none⟩ v) (some b) :=
  ⟨h.os, h.tape, h.output, by simpa using h.size, fun j hj hne => (Below.heap_setCell _ _ _ j (by show j ≠ k; omega)).trans (h.block j hj hne)⟩
theorem IsFeeler.three {B b : Nat} {l : List Bool} {T : Nat} {w : World} (h : IsFeeler B b l T w) {k : Nat} {x y z x' y' z' : Value} (hk : w.heap[k]? = some (.cells #[x, y, z] 51 (0, 0))) (hkb : k ≠ b) :
    IsFeeler B b l T (((w.setCell ⟨k, 0, none⟩ x').setCell ⟨k, 1, none⟩ y').setCell ⟨k, 2, none⟩ z') ∧
    (((w.setCell ⟨k, 0, none⟩ x').setCell ⟨k, 1, none⟩ y').setCell ⟨k, 2, none⟩ z').heap[k]? = some (.cells #[x', y', z'] 51 (0, 0)) := by
  have h1 := block_set hk 0 x'
  have h2 := block_set h1 1 y'
  have h3 := block_set h2 2 z'
  exact ⟨((h.set hk hkb (by decide) 0 x').set h1 hkb (by decide) 1 y').set h2 hkb (by decide) 2 z', by rw [h3]; simp⟩
set_option maxRecDepth 100000 in
set_option maxHeartbeats 4000000 in
theorem feelPlate_any (B b : Nat) (l : List Bool) (T : Nat) (last : Int) (w : World) (h : IsFeeler B b l T w) (hT : T ≤ 1000000) (hl : l.length ≤ 1000000) (h0 : 0 ≤ last) (h1 : last ≤ 1000000000) :
    Calls Tryz.prog 47 #[.pointer (some ⟨b, 0, none⟩), .int .i64 last] w fun e w' =>
      (∀ x r, plateP last l = some (x, r) → e = .returned (.agg #[.int .i64 x.number, .int .i64 x.cls, .int .i64 x.day]) ∧ ∃ T', T' ≤ 1000000 ∧ IsFeeler B b r T' w') ∧ (plateP last l = none → e = .panicked misfit) ∧ w.grownBy w' (some b) := by
  have hc1 := h.cell1
  have hf1 := h.free1 1
  have hlt := h.lt
  have hI0 : IsFeeler B b l (onesB l) ((w.setCell ⟨b, 1, none⟩ (.int .i64 0)).alloc (.cells #[.int .i64 0, .int .i64 0, .int .i64 0] 51)) := h.reset.later ((Below.refl _ _).alloc (Nat.le_refl _) _)
  have hon := onesB_le l
  have hsz : (w.setCell ⟨b, 1, none⟩ (.int .i64 0)).heap.size = w.heap.size := by simp
  have hblk0 : ((w.setCell ⟨b, 1, none⟩ (.int .i64 0)).alloc (.cells #[.int .i64 0, .int .i64 0, .int .i64 0] 51)).heap[w.heap.size]? = some (.cells #[.int .i64 0, .int .i64 0, .int .i64 0] 51 (0, 0)) := by
    have := block_new (w.setCell ⟨b, 1, none⟩ (.int .i64 0)) (.cells #[.int .i64 0, .int .i64 0, .int .i64 0] 51)
    rwa [hsz] at this
  have hg0 : w.grownBy ((w.setCell ⟨b, 1, none⟩ (.int .i64 0)).alloc (.cells #[.int .i64 0, .int .i64 0, .int .i64 0] 51)) (some b) := grownBy_trans (grownBy_setCell b 1 _) (World.grownBy_alloc _ _ _)
  have hgm := feelGamma_any B b l (onesB l) _ hI0 (by omega) hl
  have Hgm := Lib.hid hgm; clear hgm hI0
  have Hblk0 := Lib.hid hblk0; clear hblk0
  have Hg0 := Lib.hid hg0; clear hg0 h
  have hne : w.heap.size ≠ b := by omega
  cases hgp : gammaP 0 l with
  | none =>
    have hpn : plateP last l = none := by simp [plateP, hgp]
    have Hpn := Lib.hid hpn; clear hpn
    have Hgp := Lib.hid hgp; clear hgp
    go_enter Tryz.func47, Tryz.ntmps47
    go_wp2_with (go_at_call 87; refine Hgm.out.mono ?_; rintro e w1 ⟨_, hp, hg1⟩; obtain rfl := hp Hgp.out)
    exact ⟨rfl, ⟨fun x r hx => (by rw [Hpn.out] at hx; cases hx), fun _ => rfl, grownBy_trans Hg0.out hg1⟩⟩
  | some nr =>
    obtain ⟨n, r⟩ := nr
    obtain ⟨hn, hn0, pre, _, hpr⟩ := gammaP_ok l 0 n r (by omega) hgp
    have hrl : r.length ≤ l.length := by rw [hpr]; simp
    have hor : onesB r ≤ onesB l := by rw [hpr, onesB_append]; omega
    have Hgp := Lib.hid hgp
    have hpe : plateP last l = if 22 ≤ r.length then (if (onesB l - onesB (r.drop 22)) % 2 = 0 then some (⟨last + n, valB (r.take 3), valB ((r.drop 3).take 18)⟩, r.drop 22) else none) else none := by simp [plateP, hgp]
    have Hpe := Lib.hid hpe; clear hpe hgp hpr
    have h3 := fun W hI => feelNumber_any B b 3 r (onesB l) W hI (by omega) (by omega) (by omega)
    have H3 := Lib.hid h3; clear h3
    by_cases hr3 : r.length < 3
    · have hpn : plateP last l = none := by rw [Hpe.out, if_neg (by omega)]
      have Hpn := Lib.hid hpn; clear hpn
      go_enter Tryz.func47, Tryz.ntmps47
      go_wp2_with (first
        | (go_at_call 87; refine Hgm.out.mono ?_; rintro e w1 ⟨hs, _, hg1⟩; obtain ⟨rfl, hI1⟩ := hs n r Hgp.out)
        | (go_at_call 46; refine (H3.out _ hI1).mono ?_; rintro e w2 ⟨_, hp, hg2⟩; obtain rfl := hp hr3))
      exact ⟨rfl, ⟨fun x r hx => (by rw [Hpn.out] at hx; cases hx), fun _ => rfl, grownBy_trans (grownBy_trans Hg0.out hg1) hg2⟩⟩
    · have h18 := fun W hI => feelNumber_any B b 18 (r.drop 3) (onesB l) W hI (by omega) (by rw [List.length_drop]; omega) (by omega)
      have H18 := Lib.hid h18; clear h18
      have hl3 : (r.drop 3).length = r.length - 3 := List.length_drop
      by_cases hr18 : r.length < 21
      · have hpn : plateP last l = none := by rw [Hpe.out, if_neg (by omega)]
        have Hpn := Lib.hid hpn; clear hpn
        go_enter Tryz.func47, Tryz.ntmps47
        go_wp2_with (first
          | (go_at_call 87; refine Hgm.out.mono ?_; rintro e w1 ⟨hs, _, hg1⟩; obtain ⟨rfl, hI1⟩ := hs n r Hgp.out)
          | (go_at_call_of 46 (Value.int .i64 3); refine (H3.out _ hI1).mono ?_; rintro e w2 ⟨hs, _, hg2⟩; obtain ⟨rfl, hI2⟩ := hs (by omega))
          | (go_at_call_of 46 (Value.int .i64 18); refine (H18.out _ hI2).mono ?_; rintro e w3 ⟨_, hp, hg3⟩; obtain rfl := hp (by omega)))
        exact ⟨rfl, ⟨fun x r hx => (by rw [Hpn.out] at hx; cases hx), fun _ => rfl, grownBy_trans (grownBy_trans (grownBy_trans Hg0.out hg1) hg2) hg3⟩⟩
      · have hd21 : (r.drop 3).drop 18 = r.drop 21 := by rw [List.drop_drop]
        have hl21 : (r.drop 21).length = r.length - 21 := List.length_drop
        by_cases hr22 : r.length < 22
        · have hpn : plateP last l = none := by rw [Hpe.out, if_neg (by omega)]
          have Hpn := Lib.hid hpn; clear hpn
          have hnil : r.drop 21 = [] := List.drop_eq_nil_of_le (by omega)
          rw [hnil] at hd21
          rw [hd21] at H18
          go_enter Tryz.func47, Tryz.ntmps47
          go_wp2_with (first
            | (go_at_call 87; refine Hgm.out.mono ?_; rintro e w1 ⟨hs, _, hg1⟩; obtain ⟨rfl, hI1⟩ := hs n r Hgp.out)
            | (go_at_call_of 46 (Value.int .i64 3); refine (H3.out _ hI1).mono ?_; rintro e w2 ⟨hs, _, hg2⟩; obtain ⟨rfl, hI2⟩ := hs (by omega))
            | (go_at_call_of 46 (Value.int .i64 18); refine (H18.out _ hI2).mono ?_; rintro e w3 ⟨hs, _, hg3⟩; obtain ⟨rfl, hI3⟩ := hs (by omega)
               have hblk3 := block_grown (block_grown (block_grown Hblk0.out hg1 hne) hg2 hne) hg3 hne
               have c0 := cell_of_block hblk3 0
               have c1 := cell_of_block hblk3 1
               have c2 := cell_of_block hblk3 2
               have f0 := free_of_block hblk3 0
               have f1 := free_of_block hblk3 1
               have f2 := free_of_block hblk3 2
               simp at c0 c1 c2))
          obtain ⟨hI4, hblk4⟩ := hI3.three (x' := .int .i64 (last + n)) (y' := .int .i64 (valB (r.take 3))) (z' := .int .i64 (valB ((r.drop 3).take 18))) hblk3 hne
          have hg4 := grown_set (grown_set (grown_set (grownBy_trans (grownBy_trans (grownBy_trans Hg0.out hg1) hg2) hg3) (Nat.le_refl _) 0 (.int .i64 (last + n))) (Nat.le_refl _) 1 (.int .i64 (valB (r.take 3)))) (Nat.le_refl _) 2 (.int .i64 (valB ((r.drop 3).take 18)))
          generalize ((w3.setCell ⟨w.heap.size, 0, none⟩ (.int .i64 (last + n))).setCell ⟨w.heap.size, 1, none⟩ (.int .i64 (valB (r.take 3)))).setCell ⟨w.heap.size, 2, none⟩ (.int .i64 (valB ((r.drop 3).take 18))) = w4 at *
          have h49 := feelBit_none B b (onesB l) w4 hI4
          have H49 := Lib.hid h49; clear h49
          go_wp2_with (go_at_call 49; refine H49.out.mono ?_; rintro e w5 ⟨rfl, rfl⟩)
          exact ⟨rfl, ⟨fun x r hx => (by rw [Hpn.out] at hx; cases hx), fun _ => rfl, hg4⟩⟩
        · have hlt21 : 21 < r.length := by omega
          have hd22 : r.drop 21 = r[21] :: r.drop 22 := List.drop_eq_getElem_cons hlt21
          have ho22 : onesB (r.drop 22) ≤ onesB r := by
            have := onesB_append (r.take 22) (r.drop 22)
            rw [List.take_append_drop] at this; omega
          rw [hd21, hd22] at H18
          have hl22 : (r.drop 22).length ≤ 1000000 := by rw [List.length_drop]; omega
          generalize r[21] = c at *
          by_cases hpar : (onesB l - onesB (r.drop 22)) % 2 = 0
          · have hps : plateP last l = some (⟨last + n, valB (r.take 3), valB ((r.drop 3).take 18)⟩, r.drop 22) := by rw [Hpe.out, if_pos (by omega), if_pos hpar]
            have Hps := Lib.hid hps; clear hps
            go_enter Tryz.func47, Tryz.ntmps47
            go_wp2_with (first
              | (go_at_call 87; refine Hgm.out.mono ?_; rintro e w1 ⟨hs, _, hg1⟩; obtain ⟨rfl, hI1⟩ := hs n r Hgp.out)
              | (go_at_call_of 46 (Value.int .i64 3); refine (H3.out _ hI1).mono ?_; rintro e w2 ⟨hs, _, hg2⟩; obtain ⟨rfl, hI2⟩ := hs (by omega))
              | (go_at_call_of 46 (Value.int .i64 18); refine (H18.out _ hI2).mono ?_; rintro e w3 ⟨hs, _, hg3⟩; obtain ⟨rfl, hI3⟩ := hs (by omega)
                 have hblk3 := block_grown (block_grown (block_grown Hblk0.out hg1 hne) hg2 hne) hg3 hne
                 have c0 := cell_of_block hblk3 0
                 have c1 := cell_of_block hblk3 1
                 have c2 := cell_of_block hblk3 2
                 have f0 := free_of_block hblk3 0
                 have f1 := free_of_block hblk3 1
                 have f2 := free_of_block hblk3 2
                 simp at c0 c1 c2))
            obtain ⟨hI4, hblk4⟩ := hI3.three (x' := .int .i64 (last + n)) (y' := .int .i64 (valB (r.take 3))) (z' := .int .i64 (valB ((r.drop 3).take 18))) hblk3 hne
            have hg4 := grown_set (grown_set (grown_set (grownBy_trans (grownBy_trans (grownBy_trans Hg0.out hg1) hg2) hg3) (Nat.le_refl _) 0 (.int .i64 (last + n))) (Nat.le_refl _) 1 (.int .i64 (valB (r.take 3)))) (Nat.le_refl _) 2 (.int .i64 (valB ((r.drop 3).take 18)))
            generalize ((w3.setCell ⟨w.heap.size, 0, none⟩ (.int .i64 (last + n))).setCell ⟨w.heap.size, 1, none⟩ (.int .i64 (valB (r.take 3)))).setCell ⟨w.heap.size, 2, none⟩ (.int .i64 (valB ((r.drop 3).take 18))) = w4 at *
            have h49 := feelBit_some B b c (r.drop 22) (onesB l) w4 hI4 (by omega) hl22
            have H49 := Lib.hid h49; clear h49
            go_wp2_with (go_at_call 49; refine H49.out.mono ?_; rintro e w5 ⟨rfl, hI5, hg5⟩; refine Hid.out ?_)
            have hc5 := hI5.cell1
            have hblk5 := block_grown hblk4 hg5 hne
            have x0 := cell_of_block hblk5 0
            have x1 := cell_of_block hblk5 1
            have x2 := cell_of_block hblk5 2
            have y0 := free_of_block hblk5 0
            have y1 := free_of_block hblk5 1
            have y2 := free_of_block hblk5 2
            simp at x0 x1 x2
            have hev : ((onesB l - onesB (r.drop 22) : Nat) : Int) % 2 = 0 := by omega
            obtain ⟨hI6, hblk6⟩ := hI5.three (x' := .int .i64 (last + n)) (y' := .int .i64 (valB (r.take 3))) (z' := .int .i64 (valB ((r.drop 3).take 18))) hblk5 hne
            have hg6 := grown_set (grown_set (grown_set (grownBy_trans hg4 hg5) (Nat.le_refl _) 0 (.int .i64 (last + n))) (Nat.le_refl _) 1 (.int .i64 (valB (r.take 3)))) (Nat.le_refl _) 2 (.int .i64 (valB ((r.drop 3).take 18)))
            have HI6 := Lib.hid hI6
            have Hblk6 := Lib.hid hblk6
            have Hg6 := Lib.hid hg6
            clear hI6 hblk6 hg6 hI5 hblk5 hI4 hblk4 hg4 hg5
            generalize hq : onesB l - onesB (r.drop 22) = q at *
            refine Lib.hid ?_
            go_wp2_with (go_at_call 48; refine (need_true _).mono ?_; rintro e w7 ⟨rfl, rfl⟩)
            have z0 := cell_of_block Hblk6.out 0
            have z1 := cell_of_block Hblk6.out 1
            have z2 := cell_of_block Hblk6.out 2
            simp at z0 z1 z2
            refine bodyPost_ret (v := .agg #[.int .i64 (last + n), .int .i64 (valB (r.take 3)), .int .i64 (valB ((r.drop 3).take 18))]) (by simp [results, Tryz.results47, go_sem, z0, z1, z2]) rfl ⟨fun x r' hx => ?_, fun hx => (by rw [Hps.out] at hx; cases hx), Hg6.out⟩
            rw [Hps.out] at hx
            simp only [Option.some.injEq, Prod.mk.injEq] at hx
            obtain ⟨rfl, rfl⟩ := hx
            exact ⟨rfl, onesB l, by omega, HI6.out⟩
          · have hpn : plateP last l = none := by rw [Hpe.out, if_pos (by omega), if_neg hpar]
            have Hpn := Lib.hid hpn; clear hpn
            go_enter Tryz.func47, Tryz.ntmps47
            go_wp2_with (first
              | (go_at_call 87; refine Hgm.out.mono ?_; rintro e w1 ⟨hs, _, hg1⟩; obtain ⟨rfl, hI1⟩ := hs n r Hgp.out)
              | (go_at_call_of 46 (Value.int .i64 3); refine (H3.out _ hI1).mono ?_; rintro e w2 ⟨hs, _, hg2⟩; obtain ⟨rfl, hI2⟩ := hs (by omega))
              | (go_at_call_of 46 (Value.int .i64 18); refine (H18.out _ hI2).mono ?_; rintro e w3 ⟨hs, _, hg3⟩; obtain ⟨rfl, hI3⟩ := hs (by omega)
                 have hblk3 := block_grown (block_grown (block_grown Hblk0.out hg1 hne) hg2 hne) hg3 hne
                 have c0 := cell_of_block hblk3 0
                 have c1 := cell_of_block hblk3 1
                 have c2 := cell_of_block hblk3 2
                 have f0 := free_of_block hblk3 0
                 have f1 := free_of_block hblk3 1
                 have f2 := free_of_block hblk3 2
                 simp at c0 c1 c2))
            obtain ⟨hI4, hblk4⟩ := hI3.three (x' := .int .i64 (last + n)) (y' := .int .i64 (valB (r.take 3))) (z' := .int .i64 (valB ((r.drop 3).take 18))) hblk3 hne
            have hg4 := grown_set (grown_set (grown_set (grownBy_trans (grownBy_trans (grownBy_trans Hg0.out hg1) hg2) hg3) (Nat.le_refl _) 0 (.int .i64 (last + n))) (Nat.le_refl _) 1 (.int .i64 (valB (r.take 3)))) (Nat.le_refl _) 2 (.int .i64 (valB ((r.drop 3).take 18)))
            generalize ((w3.setCell ⟨w.heap.size, 0, none⟩ (.int .i64 (last + n))).setCell ⟨w.heap.size, 1, none⟩ (.int .i64 (valB (r.take 3)))).setCell ⟨w.heap.size, 2, none⟩ (.int .i64 (valB ((r.drop 3).take 18))) = w4 at *
            have h49 := feelBit_some B b c (r.drop 22) (onesB l) w4 hI4 (by omega) hl22
            have H49 := Lib.hid h49; clear h49
            go_wp2_with (go_at_call 49; refine H49.out.mono ?_; rintro e w5 ⟨rfl, hI5, hg5⟩; refine Hid.out ?_)
            have hc5 := hI5.cell1
            have hev : (((onesB l - onesB (r.drop 22) : Nat) : Int) % 2 == 0) = false := by simp; omega
            have Hg45 := Lib.hid (grownBy_trans hg4 hg5)
            clear hI5 hI4 hblk4 hg4 hg5
            generalize hq : onesB l - onesB (r.drop 22) = q at *
            refine Lib.hid ?_
            go_wp2_with (go_at_call 48; refine (need_false _).mono ?_; rintro e w7 ⟨rfl, rfl⟩)
            exact ⟨rfl, ⟨fun x r hx => (by rw [Hpn.out] at hx; cases hx), fun _ => rfl, Hg45.out⟩⟩
end Go.Proofs.YtjmhpfedglindaaGreatDoor
