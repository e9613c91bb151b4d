/- Y0: meterOf: the walk. -/
import Derived.Test.YtjmhpfedglindaaGreatDoorX3
set_option linter.unusedVariables false
set_option linter.unusedSimpArgs false
namespace Go.Proofs.YtjmhpfedglindaaGreatDoor
open Go.RowKit

theorem trim_walk (l : List UInt8) (c : UInt8) (hc : c.toNat < 128) (w : World) : Calls Tryz.prog 108 #[str l, .string ⟨#[c]⟩] w fun e w' => e = .returned (str (Lib.trimLeftB l c)) ∧ w = w' :=
  (Tryz.strings_TrimLeft_one ⟨l.toArray⟩ c hc w).mono fun _ _ ⟨h1, h2⟩ => ⟨h1, h2.symm⟩
theorem trim_len (l : List UInt8) (c : UInt8) : (Lib.trimLeftB l c).length ≤ l.length := by
  unfold Lib.trimLeftB
  exact (List.dropWhile_sublist _).length_le

theorem extract_str (l : List UInt8) (a b : Nat) : (⟨l.toArray⟩ : ByteArray).extract a b = ⟨((l.drop a).take (b - a)).toArray⟩ := by
  apply ByteArray.ext
  apply Array.toList_inj.1
  rw [Lib.extract_data]

set_option maxRecDepth 100000 in
set_option maxHeartbeats 1000000 in
theorem meter_walk (l : List UInt8) (hl : l.length ≤ 100000) (N : Nat) (w : World) (hE : Env N w) (hN : N ≤ w.heap.size) :
    Calls Tryz.prog 75 #[str l] w fun e w' => (∀ m, meterP l = some m → e = .returned (.int .i64 m)) ∧ (meterP l = none → e = .panicked misfit) ∧ Below w.heap.size w w' := by
  by_cases h7 : l.length = 7
  · match l, h7 with
    | c :: q, h7 =>
      have hq : q.length = 6 := by simpa using h7
      have hmp : meterP (c :: q) = match figureP (Lib.trimLeftB q 48) with | none => none | some n => if wideL n 6 48 = q then some (n : Int) else none := by
        unfold meterP; rw [if_pos h7]; rfl
      have h108 := fun W => trim_walk q 48 (by decide) W
      have H108 := Lib.hid h108; clear h108
      have htl := trim_len q 48
      cases hf : figureP (Lib.trimLeftB q 48) with
      | none =>
        rw [hf] at hmp
        dsimp only at hmp
        have h104 := fun W => figure_bad hf (by omega) W
        have H104 := Lib.hid h104; clear h104 hf
        have Hmp := Lib.hid hmp; clear hmp
        have Hq := Lib.hid hq
        have hq' : ((q.length : Int) + 1 == 7) = true := by simp; omega
        clear hq h7
        go_enter Tryz.func75, Tryz.ntmps75
        have hext : (⟨(c :: q).toArray⟩ : ByteArray).extract 1 (q.length + 1) = ⟨q.toArray⟩ := by rw [extract_str]; simp [List.take_of_length_le]
        go_wp2_with fail
        refine (need_is (by simp [Hq.out]) _).mono ?_
        rintro e w1 ⟨rfl, rfl⟩
        go_wp2_with fail
        refine (H108.out _).mono ?_
        rintro e w2 ⟨rfl, rfl⟩
        go_wp2_with fail
        refine (H104.out _).mono ?_
        rintro e w3 ⟨rfl, hb3⟩
        go_wp2_with fail
        exact ⟨rfl, ⟨fun m hm => (by rw [Hmp.out] at hm; cases hm), fun _ => rfl, hb3⟩⟩
      | some n =>
        rw [hf] at hmp
        dsimp only at hmp
        have h104 := fun W => figure_good hf (by omega) W
        have H104 := Lib.hid h104; clear h104
        have hnb := (figure_some hf).2
        clear hf
        have Hmp := Lib.hid hmp; clear hmp
        have Hq := Lib.hid hq
        have hq' : ((q.length : Int) + 1 == 7) = true := by simp; omega
        clear hq h7
        have hext : (⟨(c :: q).toArray⟩ : ByteArray).extract 1 (q.length + 1) = ⟨q.toArray⟩ := by rw [extract_str]; simp [List.take_of_length_le]
        have h54 := fun W (hW : Below w.heap.size w W) => wide_any n 6 48 N W (by omega) (by omega) (by omega) (hE.later (hW.mono hN))
        have H54 := Lib.hid h54; clear h54
        go_enter Tryz.func75, Tryz.ntmps75
        go_wp2_with fail
        refine (need_is (by simp [Hq.out]) _).mono ?_
        rintro e w1 ⟨rfl, rfl⟩
        go_wp2_with fail
        refine (H108.out _).mono ?_
        rintro e w2 ⟨rfl, rfl⟩
        go_wp2_with fail
        refine (H104.out _).mono ?_
        rintro e w3 ⟨rfl, hb3⟩
        go_wp2_with fail
        have hle1 : (1 : Int) ≤ (q.length : Int) + 1 := by omega
        refine wp_region_X (fun _ => True) (fun _ => false) (by kernel_rfl) ?_
        refine wpAnyX_take (i := 0) (v := ?_) rfl (by kernel_rfl) (by kernel_rfl) (by kernel_rfl) (by kernel_rfl) (fun _ _ _ h => h) (Or.inl ⟨by rfl, ?_⟩) trivial ?_
        rotate_left 1
        · rintro w' _; go_simp
          all_goals with_reducible rfl
        refine wpAnyX_take (i := 2) (v := ?_) rfl (by kernel_rfl) (by kernel_rfl) (by kernel_rfl) (by kernel_rfl) (fun _ _ _ h => h) (Or.inl ⟨by rfl, ?_⟩) trivial ?_
        rotate_left 1
        · rintro w' _; go_simp
          all_goals with_reducible rfl
        refine wpAnyX_take (i := 3) (v := ?_) rfl (by kernel_rfl) (by kernel_rfl) (by kernel_rfl) (by kernel_rfl) (fun _ _ _ h => h) (Or.inl ⟨by rfl, ?_⟩) trivial ?_
        rotate_left 1
        · rintro w' _; go_simp
          all_goals with_reducible rfl
        refine wpAnyX_one (i := 1) (by kernel_rfl) rfl (fun K hK => ?_)
        go_simp
        refine (H54.out _ hb3.drew).mono ?_
        rintro e w4 ⟨rfl, hb4⟩
        refine hK _ _ (fun _ => trivial) ?_
        clear hK K
        refine wpAnyX_take (i := 4) (v := ?_) rfl (by kernel_rfl) (by kernel_rfl) (by kernel_rfl) (by kernel_rfl) (fun _ _ _ h => h) (Or.inl ⟨by rfl, ?_⟩) trivial ?_
        rotate_left 1
        · rintro w' _; go_simp
          all_goals with_reducible rfl
        by_cases hwq : wideL n 6 48 = q
        · have hm : meterP (c :: q) = some (n : Int) := by rw [Hmp.out, if_pos hwq]
          have Hm := Lib.hid hm; clear hm
          have Hw := Lib.hid hwq; clear hwq
          refine wpAnyX_one (i := 5) (by kernel_rfl) rfl (fun K hK => ?_)
          go_simp
          refine (need_is (by simp [Hw.out]) _).mono ?_
          rintro e w5 ⟨rfl, rfl⟩
          refine hK _ _ (fun _ => trivial) ?_
          clear hK K
          refine wpAnyX_done (by kernel_rfl) ?_
          go_wp2_with fail
          go_ret
          exact ⟨fun m hmm => (by rw [Hm.out] at hmm; cases hmm; rfl), fun hn => (by rw [Hm.out] at hn; cases hn), hb3.drew.trans (hb4.mono hb3.drew.size)⟩
        · have hm : meterP (c :: q) = none := by rw [Hmp.out, if_neg hwq]
          have Hm := Lib.hid hm; clear hm
          have Hw := Lib.hid hwq; clear hwq
          refine wpAnyX_one (i := 5) (by kernel_rfl) rfl (fun K hK => ?_)
          go_simp
          refine (need_not (by simp [Hw.out]) _).mono ?_
          rintro e w5 ⟨rfl, rfl⟩
          exact ⟨rfl, ⟨fun m hmm => (by rw [Hm.out] at hmm; cases hmm), fun _ => rfl, hb3.drew.trans (hb4.mono hb3.drew.size)⟩⟩
  · have h7' : ((l.length : Int) == 7) = false := by simp; omega
    have hmp : meterP l = none := by unfold meterP; rw [if_neg h7]
    have Hmp := Lib.hid hmp; clear hmp h7
    go_enter Tryz.func75, Tryz.ntmps75
    go_wp2_with fail
    refine (need_not (by simp [h7']) _).mono ?_
    rintro e w1 ⟨rfl, rfl⟩
    go_wp2_with fail
    exact ⟨rfl, ⟨fun m hm => (by rw [Hmp.out] at hm; cases hm), fun _ => rfl, Below.refl _ _⟩⟩
end Go.Proofs.YtjmhpfedglindaaGreatDoor
