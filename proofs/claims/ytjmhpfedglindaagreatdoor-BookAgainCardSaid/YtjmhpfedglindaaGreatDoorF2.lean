/- F2: the feeler: numbers, gamma numbers, plates. -/
import Derived.Test.YtjmhpfedglindaaGreatDoorF1
import Derived.StillTailTactics
set_option linter.unusedVariables false
set_option linter.unusedSimpArgs false
namespace Go.Proofs.YtjmhpfedglindaaGreatDoor
open Go.RowKit

theorem valB_take_succ (l : List Bool) (j : Nat) (h : j < l.length) : valB (l.take (j + 1)) = 2 * valB (l.take j) + l[j].toNat := by
  rw [List.take_succ_eq_append_getElem h, valB_snoc]

set_option maxRecDepth 100000 in
set_option maxHeartbeats 4000000 in
theorem feelNumber_any (B b many : Nat) (l : List Bool) (T : Nat) (w : World) (h : IsFeeler B b l T w) (hT : T ≤ 1000000) (hl : l.length ≤ 1000000) (hm : many ≤ 30) :
    Calls Tryz.prog 46 #[.pointer (some ⟨b, 0, none⟩), .int .i64 many] w fun e w' =>
      (many ≤ l.length → e = .returned (.int .i64 (valB (l.take many))) ∧ IsFeeler B b (l.drop many) T w') ∧ (l.length < many → e = .panicked misfit) ∧ w.grownBy w' (some b) := by
  go_enter Tryz.func46, Tryz.ntmps46
  go_wp2_with fail
  go_loopw [4, 6] (fun n i wr => ∃ j : Nat, j ≤ many ∧ j ≤ l.length ∧ i = .int .i64 j ∧ n = .int .i64 (valB (l.take j)) ∧ IsFeeler B b (l.drop j) T wr ∧ w.grownBy wr (some b)) (fun _ i _ => many - (intOf i).toNat)
  case atStart => exact ⟨0, Nat.zero_le _, Nat.zero_le _, rfl, by simp [valB], by simpa using h, grownBy_refl _ _⟩
  case round =>
    obtain ⟨j, hj, hjl, rfl, rfl, hF, hg⟩ := hrel
    have hv := valB_lt (l.take j)
    have hv2 : valB (l.take j) < 2 ^ 30 := Nat.lt_of_lt_of_le hv (Nat.pow_le_pow_right (by omega) (by rw [List.length_take]; omega))
    by_cases hlt : j < many
    · by_cases hjl2 : j < l.length
      · have hd : l.drop j = l[j] :: l.drop (j + 1) := by rw [List.drop_eq_getElem_cons hjl2]
        rw [hd] at hF
        have hts := valB_take_succ l j hjl2
        have hc : l[j].toNat ≤ 1 := by cases l[j] <;> simp
        have h49 := feelBit_some B b l[j] (l.drop (j + 1)) T wr hF hT (by rw [List.length_drop]; omega)
        have H49 := Lib.hid h49; clear h49 hd hF
        have Hts := Lib.hid hts; clear hts
        generalize l[j] = c at *
        generalize valB (l.take j) = v at *
        go_wp2_with (go_at_call 49; refine H49.out.mono ?_; rintro e w1 ⟨rfl, hF1, hg1⟩)
        go_roundw
        case rel => exact ⟨j + 1, by omega, by omega, by go_num, by rw [Hts.out]; go_num, hF1, grownBy_trans hg hg1⟩
        case measure => simp [intOf]; omega
      · have hd : l.drop j = [] := List.drop_eq_nil_of_le (by omega)
        rw [hd] at hF
        have h49 := feelBit_none B b T wr hF
        have H49 := Lib.hid h49; clear h49 hd hF
        generalize valB (l.take j) = v at *
        go_wp2_with (go_at_call 49; refine H49.out.mono ?_; rintro e w1 ⟨rfl, rfl⟩)
        exact ⟨rfl, by omega, fun _ => rfl, hg⟩
    · obtain rfl : j = many := by omega
      go_wp2_with fail
      go_ret
      exact ⟨fun _ => ⟨rfl, hF⟩, by omega, hg⟩

theorem bits_or_i64_nat (a b : Nat) (ha : a < 4611686018427387904) (hb : b < 4611686018427387904) : bits .or .i64 (a : Int) (b : Int) = ((a ||| b : Nat) : Int) := by
  have hx : a ||| b < 2 ^ 62 := Nat.or_lt_two_pow (by omega) (by omega)
  have h1 : (BitVec.ofInt 64 (a : Int)).toNat = a := by
    rw [BitVec.ofInt_natCast, BitVec.toNat_ofNat]; exact Nat.mod_eq_of_lt (by omega)
  have h2 : (BitVec.ofInt 64 (b : Int)).toNat = b := by
    rw [BitVec.ofInt_natCast, BitVec.toNat_ofNat]; exact Nat.mod_eq_of_lt (by omega)
  show IntKind.i64.wrap ((BitVec.ofInt 64 (a : Int) ||| BitVec.ofInt 64 (b : Int)).toNat : Int) = _
  rw [BitVec.toNat_or, h1, h2, IntKind.wrap_i64]
  omega
theorem orPow (z v : Nat) (h : v < 2 ^ z) (hz : z ≤ 30) : bits .or .i64 (2 ^ z) (v : Int) = 2 ^ z + (v : Int) := by
  have h1 : 2 ^ z ≤ 2 ^ 30 := Nat.pow_le_pow_right (by omega) hz
  have := bits_or_i64_nat (2 ^ z) v (by omega) (by omega)
  have h2 := Nat.two_pow_add_eq_or_of_lt h 1
  rw [Nat.mul_one] at h2
  rw [← h2] at this
  push_cast at this
  exact this

theorem powLe (z : Nat) (hz : z ≤ 16) : (2 : Int) ^ z ≤ 65536 := by
  have h2z : 2 ^ z ≤ 2 ^ 16 := Nat.pow_le_pow_right (by omega) hz
  have h : ((2 ^ z : Nat) : Int) ≤ 65536 := by omega
  push_cast at h
  exact h
theorem grownBy_drew (w : World) (row : Option Nat) : w.grownBy w.drew row := ⟨rfl, rfl, rfl, Nat.le_refl _, fun _ _ _ => rfl⟩
/-- A gamma number, of which so many noughts have been read. -/
def gammaP : Nat → List Bool → Option (Nat × List Bool)
  | _, [] => none
  | z, true :: r => if z ≤ r.length then some (2 ^ z + valB (r.take z), r.drop z) else none
  | z, false :: r => if z + 1 ≤ 16 then gammaP (z + 1) r else none

set_option maxRecDepth 100000 in
set_option maxHeartbeats 4000000 in
theorem feelGamma_any (B b : Nat) (l : List Bool) (T : Nat) (w : World) (h : IsFeeler B b l T w) (hT : T ≤ 1000000) (hl : l.length ≤ 1000000) :
    Calls Tryz.prog 87 #[.pointer (some ⟨b, 0, none⟩)] w fun e w' =>
      (∀ n r, gammaP 0 l = some (n, r) → e = .returned (.int .i64 n) ∧ IsFeeler B b r T w') ∧ (gammaP 0 l = none → e = .panicked misfit) ∧ w.grownBy w' (some b) := by
  go_enter Tryz.func87, Tryz.ntmps87
  go_wp2_with fail
  go_loopw [3] (fun i wr => ∃ (z : Nat) (r : List Bool), z ≤ 16 ∧ r.length ≤ l.length ∧ i = .int .i64 z ∧ gammaP 0 l = gammaP z r ∧ IsFeeler B b r T wr ∧ w.grownBy wr (some b)) (fun i _ => 17 - (intOf i).toNat)
  case atStart => exact ⟨0, l, by omega, Nat.le_refl _, rfl, rfl, h, grownBy_refl _ _⟩
  case round =>
    obtain ⟨z, r, hz, hrl, rfl, hP, hF, hg⟩ := hrel
    match r, hrl, hP, hF with
    | [], hrl, hP, hF =>
      have h49 := feelBit_none B b T wr hF
      have H49 := Lib.hid h49; clear h49
      have HP := Lib.hid hP; clear hP
      go_wp2_with (go_at_call 49; refine H49.out.mono ?_; rintro e w1 ⟨rfl, rfl⟩)
      exact ⟨rfl, fun n r hn => by rw [HP.out] at hn; simp [gammaP] at hn, fun _ => rfl, hg⟩
    | false :: r, hrl, hP, hF =>
      have h49 := feelBit_some B b false r T wr hF hT (by simp at hrl; omega)
      have H49 := Lib.hid h49; clear h49
      have HP := Lib.hid hP; clear hP
      by_cases h16 : z + 1 ≤ 16
      · have hd16 : decide ((z : Int) + 1 ≤ 16) = true := decide_eq_true (by omega)
        go_wp2_with (first | (go_at_call 49; refine H49.out.mono ?_; rintro e w1 ⟨rfl, hF1, hg1⟩) | (go_at_call 48; refine (need_true _).mono ?_; rintro e w2 ⟨rfl, rfl⟩))
        go_roundw
        case rel => exact ⟨z + 1, r, h16, by simp at hrl; omega, by go_num, by rw [HP.out]; simp [gammaP, h16], hF1, grownBy_trans hg hg1⟩
        case measure => simp [intOf]; omega
      · obtain rfl : z = 16 := by omega
        go_wp2_with (first | (go_at_call 49; refine H49.out.mono ?_; rintro e w1 ⟨rfl, hF1, hg1⟩) | (go_at_call 48; refine (need_false _).mono ?_; rintro e w2 ⟨rfl, rfl⟩))
        exact ⟨rfl, fun n r hn => by rw [HP.out] at hn; simp [gammaP] at hn, fun _ => rfl, grownBy_trans hg hg1⟩
    | true :: r, hrl, hP, hF =>
      have h49 := feelBit_some B b true r T wr hF hT (by simp at hrl; omega)
      have H49 := Lib.hid h49; clear h49
      have HP := Lib.hid hP; clear hP
      have h46 := fun W hI => feelNumber_any B b z r T W hI hT (by simp at hrl; omega) (by omega)
      have H46 := Lib.hid h46; clear h46
      go_wp2_with (go_at_call 49; refine H49.out.mono ?_; rintro e w1 ⟨rfl, hF1, hg1⟩)
      have hF1' : IsFeeler B b r T w1.drew := hF1.later (Below.refl _ _).drew
      have hv := valB_lt (r.take z)
      have h2z : 2 ^ z ≤ 2 ^ 16 := Nat.pow_le_pow_right (by omega) hz
      have h2z' : (2 : Int) ^ z ≤ 65536 := powLe z hz
      have h2z0 : (0 : Int) < (2 : Int) ^ z := Int.pow_pos (by decide)
      by_cases hzr : z ≤ r.length
      · rw [List.length_take, Nat.min_eq_left hzr] at hv
        have hor := orPow z (valB (r.take z)) hv (by omega)
        have hw2 : IntKind.i64.wrap ((2 : Int) ^ z) = 2 ^ z := IntWalk.i64_in _ (by omega)
        go_region_with (go_at_call 46; refine (H46.out _ hF1').mono ?_; rintro e w2 ⟨h1, h2, hg2⟩; obtain ⟨rfl, hF2⟩ := h1 hzr)
        go_wp2_with fail
        go_ret
        refine ⟨fun n r' hn => ?_, fun hn => ?_, grownBy_trans (grownBy_trans hg hg1) (grownBy_trans (grownBy_drew w1 _) hg2)⟩
        · rw [HP.out] at hn
          simp only [gammaP, if_pos hzr, Option.some.injEq, Prod.mk.injEq] at hn
          obtain ⟨rfl, rfl⟩ := hn
          exact ⟨by push_cast; rfl, hF2⟩
        · rw [HP.out] at hn
          simp [gammaP, if_pos hzr] at hn
      · have hnone : gammaP 0 l = none := by rw [HP.out]; simp [gammaP, hzr]
        have Hnone := Lib.hid hnone; clear hnone
        refine wp_region_any (by kernel_rfl) ?_
        change wpAny _ _ _ _ _ _ _ (World.drew _)
        refine wpAny_take (i := 0) (v := ?_) rfl (by kernel_rfl) (by kernel_rfl) (by kernel_rfl) (fun _ _ _ h => h) (Or.inl ⟨by rfl, ?_⟩) ?_
        rotate_left 1
        · intro w; go_simp
          all_goals with_reducible rfl
        refine wpAny_take (i := 1) (v := ?_) rfl (by kernel_rfl) (by kernel_rfl) (by kernel_rfl) (fun _ _ _ h => h) (Or.inl ⟨by rfl, ?_⟩) ?_
        rotate_left 1
        · intro w; go_simp
          all_goals with_reducible rfl
        refine wpAny_take (i := 2) (v := ?_) rfl (by kernel_rfl) (by kernel_rfl) (by kernel_rfl) (fun _ _ _ h => h) (Or.inl ⟨by rfl, ?_⟩) ?_
        rotate_left 1
        · intro w; go_simp
          all_goals with_reducible rfl
        refine wpAny_take (i := 3) (v := ?_) rfl (by kernel_rfl) (by kernel_rfl) (by kernel_rfl) (fun _ _ _ h => h) (Or.inl ⟨by rfl, ?_⟩) ?_
        rotate_left 1
        · intro w; go_simp
          all_goals with_reducible rfl
        refine wpAny_ready (rs := [4]) (by kernel_rfl) (by simp) ?_
        refine AllReady.cons rfl (fun K hK => ?_) AllReady.nil
        go_simp
        go_wp2_with (go_at_call 46; refine (H46.out _ hF1').mono ?_; rintro e w2 ⟨h1, h2, hg2⟩; obtain rfl := h2 (by omega))
        exact ⟨rfl, fun n r hn => (by rw [Hnone.out] at hn; cases hn), fun _ => rfl, grownBy_trans (grownBy_trans hg hg1) (grownBy_trans (grownBy_drew w1 _) hg2)⟩
end Go.Proofs.YtjmhpfedglindaaGreatDoor
