/- X1: growthOf, pageOf: the walks. -/
import Derived.Test.YtjmhpfedglindaaGreatDoorX0
set_option linter.unusedVariables false
set_option linter.unusedSimpArgs false
namespace Go.Proofs.YtjmhpfedglindaaGreatDoor
open Go.RowKit

theorem below_of_drewN {w W : World} {B n : Nat} (h : Below B w (W.drewN n)) : Below B w (W.drewN n) := h
theorem cut_walk (l : List UInt8) (c : UInt8) (hl : l.length ≤ 1000000) (m : Int) (w : World) (hm : w.cell? ⟨1, 0, none⟩ = some (.int .i64 m)) :
    Calls Tryz.prog 134 #[str l, .string ⟨#[c]⟩] w fun e w' => e = .returned (.tuple #[str (Lib.cut l [c]).1, str (Lib.cut l [c]).2.1, .bool (Lib.cut l [c]).2.2]) ∧ Below w.heap.size w w' := by
  refine (Tryz.strings_Cut ⟨l.toArray⟩ ⟨#[c]⟩ m w (by simp [ByteArray.size]; omega) hm).mono ?_
  rintro e w' ⟨rfl, n, rfl⟩
  exact ⟨rfl, below_drewN (Below.refl _ _) n⟩

set_option maxRecDepth 100000 in
set_option maxHeartbeats 1000000 in
theorem growth_walk (l : List UInt8) (hl : l.length ≤ 1000000) (N : Nat) (w : World) (hE : Env N w) (hN : N ≤ w.heap.size) :
    Calls Tryz.prog 105 #[str l] w fun e w' => (∀ g, growthP l = some g → e = .returned (.agg #[.int .i64 g.many, .int .i64 g.by_])) ∧ (growthP l = none → e = .panicked misfit) ∧ Below w.heap.size w w' := by
  have hb0 : Below w.heap.size w (w.alloc (.cells #[.int .i64 0, .int .i64 0] 111)) := (Below.refl _ _).alloc (Nat.le_refl _) _
  obtain ⟨m, hm⟩ := (hE.later (hb0.mono hN)).max
  have hblk := block_new w (.cells #[.int .i64 0, .int .i64 0] 111)
  have h134 := cut_walk l 120 hl m _ hm
  have hgp : growthP l = match Lib.cut l [120] with
    | (_, _, false) => match figureP l with | none => none | some d => some ⟨1, d⟩
    | (a, b, true) => match figureP a with | none => none | some m => match figureP b with | none => none | some d => if 2 ≤ m ∧ m ≤ 16 then some ⟨m, d⟩ else none := rfl
  rcases cut_form l 120 with ⟨h0, e⟩ | ⟨p, r, rfl, h0, e⟩
  · rw [e] at h134 hgp
    have H134 := Lib.hid h134; clear h134 e h0
    dsimp only at hgp
    cases hf : figureP l with
    | none =>
      rw [hf] at hgp
      dsimp only at hgp
      have h104 := fun W => figure_bad hf (by omega) W
      have H104 := Lib.hid h104; clear h104 hf
      have Hgp := Lib.hid hgp; clear hgp
      go_enter Tryz.func105, Tryz.ntmps105
      go_wp2_with (first
        | (go_at_call 134; refine H134.out.mono ?_; rintro e w1 ⟨rfl, hb1⟩)
        | (go_at_call 104; refine (H104.out _).mono ?_; rintro e w2 ⟨rfl, hb2⟩))
      exact ⟨rfl, ⟨fun g hg => (by rw [Hgp.out] at hg; cases hg), fun _ => rfl, hb0.trans ((hb1.mono (by simp)).trans (hb2.mono (Nat.le_trans hb0.size hb1.size)))⟩⟩
    | some d =>
      rw [hf] at hgp
      dsimp only at hgp
      have h104 := fun W => figure_good hf (by omega) W
      have H104 := Lib.hid h104; clear h104 hf
      have Hgp := Lib.hid hgp; clear hgp
      have Hblk := Lib.hid hblk; clear hblk
      go_enter Tryz.func105, Tryz.ntmps105
      go_wp2_with (first
        | (go_at_call 134; refine H134.out.mono ?_; rintro e w1 ⟨rfl, hb1⟩)
        | (go_at_call 104; refine (H104.out _).mono ?_; rintro e w2 ⟨rfl, hb2⟩; have hk := block_below (block_below Hblk.out hb1 (block_lt Hblk.out)) hb2 (block_lt (block_below Hblk.out hb1 (block_lt Hblk.out))); have f0 := free_of_block hk 0; have f1 := free_of_block hk 1; have c0 := cell_of_block hk 0; have c1 := cell_of_block hk 1; simp at c0 c1; have Hk := Lib.hid hk; clear hk))
      refine bodyPost_ret (v := .agg #[.int .i64 1, .int .i64 d]) (by simp [results, Tryz.results105, go_sem, c0, c1]) rfl ⟨fun g hg => ?_, fun h => (by rw [Hgp.out] at h; cases h), ?_⟩
      · rw [Hgp.out] at hg
        injection hg with hg
        subst hg
        rfl
      · have hb2' := hb0.trans ((hb1.mono (by simp)).trans (hb2.mono (Nat.le_trans hb0.size hb1.size)))
        exact (hb2'.setCell (p := ⟨w.heap.size, 0, none⟩) (Nat.le_refl _) _).setCell (p := ⟨w.heap.size, 1, none⟩) (Nat.le_refl _) _
  · rw [e] at h134 hgp
    have H134 := Lib.hid h134; clear h134 e h0
    dsimp only at hgp
    rw [List.length_append, List.length_cons] at hl
    cases hf : figureP p with
    | none =>
      rw [hf] at hgp
      dsimp only at hgp
      have h104 := fun W => figure_bad hf (by omega) W
      have H104 := Lib.hid h104; clear h104 hf
      have Hgp := Lib.hid hgp; clear hgp
      generalize p ++ 120 :: r = l at *
      go_enter Tryz.func105, Tryz.ntmps105
      go_wp2_with (first
        | (go_at_call 134; refine H134.out.mono ?_; rintro e w1 ⟨rfl, hb1⟩)
        | (go_at_call 104; refine (H104.out _).mono ?_; rintro e w2 ⟨rfl, hb2⟩))
      exact ⟨rfl, ⟨fun g hg => (by rw [Hgp.out] at hg; cases hg), fun _ => rfl, hb0.trans ((hb1.mono (by simp)).trans (hb2.mono (Nat.le_trans hb0.size hb1.size)))⟩⟩
    | some q =>
      rw [hf] at hgp
      dsimp only at hgp
      have h104 := fun W => figure_good hf (by omega) W
      have H104 := Lib.hid h104; clear h104
      have hqb := (figure_some hf).2
      clear hf
      cases hf2 : figureP r with
      | none =>
        rw [hf2] at hgp
        dsimp only at hgp
        have h104b := fun W => figure_bad hf2 (by omega) W
        have H104b := Lib.hid h104b; clear h104b hf2
        have Hgp := Lib.hid hgp; clear hgp
        generalize p ++ 120 :: r = l at *
        go_enter Tryz.func105, Tryz.ntmps105
        go_wp2_with (go_at_call 134; refine H134.out.mono ?_; rintro e w1 ⟨rfl, hb1⟩)
        refine (H104.out _).mono ?_
        rintro e w2 ⟨rfl, hb2⟩
        go_wp2_with fail
        refine (H104b.out _).mono ?_
        rintro e w3 ⟨rfl, hb3⟩
        go_wp2_with fail
        exact ⟨rfl, ⟨fun g hg => (by rw [Hgp.out] at hg; cases hg), fun _ => rfl, (hb0.trans ((hb1.mono (by simp)).trans (hb2.mono (Nat.le_trans hb0.size hb1.size)))).trans (hb3.mono (Nat.le_trans (Nat.le_trans hb0.size hb1.size) hb2.size))⟩⟩
      | some d =>
        rw [hf2] at hgp
        dsimp only at hgp
        have h104b := fun W => figure_good hf2 (by omega) W
        have H104b := Lib.hid h104b; clear h104b hf2
        have Hgp := Lib.hid hgp; clear hgp
        have Hblk := Lib.hid hblk; clear hblk
        generalize p ++ 120 :: r = l at *
        go_enter Tryz.func105, Tryz.ntmps105
        go_wp2_with (go_at_call 134; refine H134.out.mono ?_; rintro e w1 ⟨rfl, hb1⟩)
        refine (H104.out _).mono ?_
        rintro e w2 ⟨rfl, hb2⟩
        go_wp2_with fail
        refine (H104b.out _).mono ?_
        rintro e w3 ⟨rfl, hb3⟩
        have k1 := block_below Hblk.out hb1 (block_lt Hblk.out)
        have k2 := block_below k1 hb2 (block_lt k1)
        have k3 := block_below k2 hb3 (block_lt k2)
        have hb13 := (hb0.trans ((hb1.mono (by simp)).trans (hb2.mono (Nat.le_trans hb0.size hb1.size)))).trans (hb3.mono (Nat.le_trans (Nat.le_trans hb0.size hb1.size) hb2.size))
        have hlt3 := block_lt k3
        have f0 := free_of_block k3 0
        have f1 := free_of_block k3 1
        have c0 := cell_of_block k3 0
        have c1 := cell_of_block k3 1
        simp at c0 c1
        have Hk3 := Lib.hid k3
        clear k1 k2 k3
        have h111 := fun W => within_any q 2 16 W
        have H111 := Lib.hid h111; clear h111
        by_cases hin : 2 ≤ q ∧ q ≤ 16
        · have hinB : inB q 2 16 = true := by simp [inB]; omega
          rw [hinB] at H111
          rw [if_pos hin] at Hgp
          clear hinB
          go_wp2_with (first
            | (go_at_call 111; refine (H111.out _).mono ?_; rintro e w4 ⟨rfl, rfl⟩)
            | (go_at_call 48; refine (need_is rfl _).mono ?_; rintro e w5 ⟨rfl, rfl⟩))
          refine bodyPost_ret (v := .agg #[.int .i64 q, .int .i64 d]) ?_ rfl ⟨fun g hg => ?_, fun h => (by rw [Hgp.out] at h; cases h), ?_⟩
          · have k5 := block_old (block_set (block_set Hk3.out 0 (.int .i64 q)) 1 (.int .i64 d)) (.cells #[.int .i64 q, .int .i64 d] 111)
            have d0 := cell_of_block k5 0
            have d1 := cell_of_block k5 1
            simp at d0 d1
            simp [results, Tryz.results105, go_sem, d0, d1]
          · rw [Hgp.out] at hg
            injection hg with hg
            subst hg
            rfl
          · exact ((hb13.setCell (p := ⟨w.heap.size, 0, none⟩) (Nat.le_refl _) _).setCell (p := ⟨w.heap.size, 1, none⟩) (Nat.le_refl _) _).alloc (by simpa using hb13.size) _
        · have hinB : inB q 2 16 = false := by simp [inB]; omega
          rw [hinB] at H111
          rw [if_neg hin] at Hgp
          clear hinB hin
          go_wp2_with (first
            | (go_at_call 111; refine (H111.out _).mono ?_; rintro e w4 ⟨rfl, rfl⟩)
            | (go_at_call 48; refine (need_not rfl _).mono ?_; rintro e w5 ⟨rfl, rfl⟩))
          exact ⟨rfl, ⟨fun g hg => (by rw [Hgp.out] at hg; cases hg), fun _ => rfl, hb13.alloc hb13.size _⟩⟩
end Go.Proofs.YtjmhpfedglindaaGreatDoor
