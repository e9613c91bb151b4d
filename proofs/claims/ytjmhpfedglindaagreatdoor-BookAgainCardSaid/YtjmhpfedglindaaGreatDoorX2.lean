/- X2: pageOf: the walk. -/
import Derived.Test.YtjmhpfedglindaaGreatDoorW0
import Derived.Test.YtjmhpfedglindaaGreatDoorW1
import Derived.Deep.AppendLies
set_option linter.unusedVariables false
set_option linter.unusedSimpArgs false
namespace Go.Proofs.YtjmhpfedglindaaGreatDoor
open Go.RowKit

def intsV (l : List Int) : List Value := l.map fun n => .int .i64 n
theorem growth_good {l : List UInt8} {g : Growth} (h : growthP l = some g) (hl : l.length ≤ 1000000) (N : Nat) (w : World) (hE : Env N w) (hN : N ≤ w.heap.size) : Calls Tryz.prog 105 #[str l] w fun e w' => e = .returned (.agg #[.int .i64 g.many, .int .i64 g.by_]) ∧ Below w.heap.size w w' :=
  (growth_walk l hl N w hE hN).mono fun _ _ ⟨h1, _, h3⟩ => ⟨h1 g h, h3⟩
theorem growth_bad {l : List UInt8} (h : growthP l = none) (hl : l.length ≤ 1000000) (N : Nat) (w : World) (hE : Env N w) (hN : N ≤ w.heap.size) : Calls Tryz.prog 105 #[str l] w fun e w' => e = .panicked misfit ∧ Below w.heap.size w w' :=
  (growth_walk l hl N w hE hN).mono fun _ _ ⟨_, h2, h3⟩ => ⟨h2 h, h3⟩
theorem parts_len (c : UInt8) : ∀ (l : List UInt8), ∀ p ∈ partsL c l, p.length ≤ l.length := by
  intro l
  induction l with
  | nil => simp [partsL]
  | cons x l ih =>
    intro p hp
    rw [partsL] at hp
    split at hp
    · rcases List.mem_cons.1 hp with rfl | hp
      · simp
      · have := ih p hp; simp; omega
    · split at hp
      · simp at hp; subst hp; simp
      · rename_i q ps he
        rcases List.mem_cons.1 hp with rfl | hp
        · have := ih q (by rw [he]; simp); simp; omega
        · have := ih p (by rw [he]; simp [hp]); simp; omega

theorem str_cells {w : World} {b N : Nat} {ls : List (List UInt8)} (h : RowsR strR 1 N w (some ⟨b, 0, none⟩) ls) (j : Nat) (hj : j < ls.length) : w.cell? ⟨b, j, none⟩ = some (str ls[j]) := by
  obtain ⟨b1, o1, c0, hab, hbN, hR, hc⟩ := rows1 h j hj
  simp only [strR, List.cons.injEq, and_true] at hR
  subst hR
  simp only [Option.some.injEq, Addr.mk.injEq, and_true] at hab
  obtain ⟨rfl, rfl⟩ := hab
  simpa using hc
theorem own_ne {w : World} {B s n : Nat} {e : TypeId} {v : Value} {xs : List Value} (ho : w.ownsRow B e s v n xs) {R : Nat} {cs : Array Value} {e' : TypeId} {fz : Nat × Nat} (hR : w.heap[R]? = some (.cells cs e' fz)) (hne : e ≠ e') : v.ownBlock = none ∨ v.ownBlock ≠ some R := by
  by_cases h : v.ownBlock = some R
  · obtain ⟨cs', fz', hk⟩ := own_tag ho R h
    rw [hR] at hk
    injection hk with hk
    injection hk with _ h2 _
    exact absurd h2.symm hne
  · exact .inr h
theorem page_out {wr : World} {B R : Nat} {va x y c0 c1 : Value} {rs : List Int} (hown : wr.ownsRow B 3 1 va rs.length (intsV rs)) (hR : wr.heap[R]? = some (.cells #[x, y] 49 (0, 0))) :
    ((wr.setCell ⟨R, 0, none⟩ c0).setCell ⟨R, 1, none⟩ c1).ownsRow B 3 1 va rs.length (intsV rs) ∧ ((wr.setCell ⟨R, 0, none⟩ c0).setCell ⟨R, 1, none⟩ c1).cell? ⟨R, 0, none⟩ = some c0 ∧ ((wr.setCell ⟨R, 0, none⟩ c0).setCell ⟨R, 1, none⟩ c1).cell? ⟨R, 1, none⟩ = some c1 := by
  have hne := own_ne hown hR (by decide)
  have k := block_set (block_set hR 0 c0) 1 c1
  refine ⟨(hown.kept (grownBy_setCell R 0 c0) hne).kept (grownBy_setCell R 1 c1) hne, ?_, ?_⟩
  · simpa using cell_of_block k 0
  · simpa using cell_of_block k 1
theorem size_set (w : World) (a : Addr) (v : Value) : (w.setCell a v).heap.size = w.heap.size := by simp [World.setCell]
theorem lastD_last (l : List Int) (h : l ≠ []) : l[l.length - 1]? = some (lastD l) := by
  unfold lastD
  rw [List.getLast?_eq_getElem?]
  cases hx : l[l.length - 1]? with
  | none => rw [List.getElem?_eq_none_iff] at hx; have := List.length_pos_iff.2 h; omega
  | some a => rfl
theorem sums_succ (a : Int) (q : Nat) (d : Int) (rs : List Int) : rs ++ sumsL (lastD rs) (List.replicate (q + 1) d) = (rs ++ sumsL (lastD rs) (List.replicate q d)) ++ [lastD (rs ++ sumsL (lastD rs) (List.replicate q d)) + d] := by
  rw [List.replicate_succ', sumsL_append, lastD_sums, List.append_assoc]; rfl

set_option maxRecDepth 100000 in
set_option maxHeartbeats 4000000 in
theorem page_walk (l : List UInt8) (hl : l.length ≤ 100000) (N : Nat) (w : World) (hE : Env N w) (hN : N ≤ w.heap.size) :
    Calls Tryz.prog 68 #[str l] w fun e w' => (∀ x, pageP l = some x → ∃ va, e = .returned (.agg #[.int .i64 x.house, va]) ∧ w'.ownsRow w.heap.size 3 1 va x.readings.length (intsV x.readings)) ∧ (pageP l = none → e = .panicked misfit) ∧ Below w.heap.size w w' := by
  obtain ⟨i0, ihi, ihz0, ihz1, ihz2⟩ := info_parts infoInt
  have hb0 : Below w.heap.size w (w.alloc (.cells #[.int .i64 0, .slice none 0 0] 49)) := (Below.refl _ _).alloc (Nat.le_refl _) _
  obtain ⟨m, hm⟩ := (hE.later (hb0.mono hN)).max
  have hblk := block_new w (.cells #[.int .i64 0, .slice none 0 0] 49)
  have h102 := split_walk l 32 (by omega) m _ hm
  rw [World.size_alloc] at h102
  have hcb := countB_bd 32 l
  have hpl := parts_len 32 l
  have hpg : pageP l = match partsL 32 l with
    | [] => none
    | h :: ws => match figureP h with
      | none => none
      | some n => match ws with
        | [] => some ⟨n, []⟩
        | r :: gs => match figureP r with
          | none => none
          | some a => match growAll [(a : Int)] ⟨0, 0⟩ gs with | none => none | some rs => some ⟨n, rs⟩ := rfl
  have H102 := Lib.hid h102; clear h102
  obtain ⟨h, ws, hp⟩ := List.exists_cons_of_ne_nil (partsL_ne 32 l)
  rw [hp] at H102 hcb hpl hpg
  have hhl := hpl h (by simp)
  dsimp only at hpg
  cases hf : figureP h with
  | none =>
    rw [hf] at hpg
    dsimp only at hpg
    have h104 := fun W => figure_bad hf (by omega) W
    have H104 := Lib.hid h104; clear h104 hf
    have Hpg := Lib.hid hpg; clear hpg
    go_enter Tryz.func68, Tryz.ntmps68
    go_wp2_with (first
      | (go_at_call 102; refine H102.out.mono ?_; rintro e w1 ⟨rfl, hr1, hb1⟩; refine Hid.out ?_))
    have hc0 : w1.cell? ⟨w.heap.size + 1, 0, none⟩ = some (str h) := str_cells hr1 0 (by simp)
    refine Lib.hid ?_
    go_wp2_with (go_at_call 104; refine (H104.out _).mono ?_; rintro e w2 ⟨rfl, hb2⟩)
    exact ⟨rfl, ⟨fun x hx => (by rw [Hpg.out] at hx; cases hx), fun _ => rfl, (hb0.trans (hb1.mono (by simp))).trans (hb2.mono (Nat.le_trans hb0.size hb1.size))⟩⟩
  | some n =>
    rw [hf] at hpg
    dsimp only at hpg
    have h104 := fun W => figure_good hf (by omega) W
    have H104 := Lib.hid h104; clear h104
    have hnb := (figure_some hf).2
    clear hf
    cases ws with
    | nil =>
      dsimp only at hpg
      have Hpg := Lib.hid hpg; clear hpg
      have Hblk := Lib.hid hblk; clear hblk
      go_enter Tryz.func68, Tryz.ntmps68
      go_wp2_with (first
        | (go_at_call 102; refine H102.out.mono ?_; rintro e w1 ⟨rfl, hr1, hb1⟩; refine Hid.out ?_))
      have hc0 : w1.cell? ⟨w.heap.size + 1, 0, none⟩ = some (str h) := str_cells hr1 0 (by simp)
      refine Lib.hid ?_
      go_wp2_with (go_at_call 104; refine (H104.out _).mono ?_; rintro e w2 ⟨rfl, hb2⟩; refine Hid.out ?_)
      have k1 := block_below Hblk.out hb1 (Nat.lt_succ_self _)
      have k2 := block_below k1 hb2 (block_lt k1)
      have hb12 := (hb0.trans (hb1.mono (by simp))).trans (hb2.mono (Nat.le_trans hb0.size hb1.size))
      have hlt2 := block_lt k2
      have f0 := free_of_block k2 0
      have f1 := free_of_block k2 1
      have c0 := cell_of_block k2 0
      have c1 := cell_of_block k2 1
      simp at c0 c1
      have Hk2 := Lib.hid k2
      clear k1 k2
      refine Lib.hid ?_
      go_wp2_with fail
      have k5 := block_old (block_set (block_set Hk2.out 0 (.int .i64 n)) 1 (.slice none 0 0)) (.cells #[.int .i64 n, .slice none 0 0] 49)
      have d0 := cell_of_block k5 0
      have d1 := cell_of_block k5 1
      simp at d0 d1
      refine bodyPost_ret (v := .agg #[.int .i64 n, .slice none 0 0]) (by simp [results, Tryz.results68, go_sem, d0, d1]) rfl ⟨fun x hx => ?_, fun h => (by rw [Hpg.out] at h; cases h), ?_⟩
      · rw [Hpg.out] at hx
        injection hx with hx
        subst hx
        exact ⟨_, rfl, World.ownsRow_nil _ _ _ _⟩
      · exact ((hb12.setCell (p := ⟨w.heap.size, 0, none⟩) (Nat.le_refl _) _).setCell (p := ⟨w.heap.size, 1, none⟩) (Nat.le_refl _) _).alloc (by simpa using hb12.size) _
    | cons r gs =>
      dsimp only at hpg
      have hrl := hpl r (by simp)
      cases hf2 : figureP r with
      | none =>
        rw [hf2] at hpg
        dsimp only at hpg
        have h104b := fun W => figure_bad hf2 (by omega) W
        have H104b := Lib.hid h104b; clear h104b hf2
        have Hpg := Lib.hid hpg; clear hpg
        go_enter Tryz.func68, Tryz.ntmps68
        go_wp2_with (first
          | (go_at_call 102; refine H102.out.mono ?_; rintro e w1 ⟨rfl, hr1, hb1⟩; refine Hid.out ?_))
        have hc0 : w1.cell? ⟨w.heap.size + 1, 0, none⟩ = some (str h) := str_cells hr1 0 (by simp)
        have hc1 : w1.cell? ⟨w.heap.size + 1, 1, none⟩ = some (str r) := str_cells hr1 1 (by simp)
        have hlt1 : w.heap.size + 1 < w1.heap.size := World.block_lt_of_cell? w1 _ hc0
        refine Lib.hid ?_
        go_wp2_with fail
        refine (H104.out _).mono ?_
        rintro e w2 ⟨rfl, hb2⟩
        have hc1' := (((Below.refl w2.heap.size w2).alloc (Nat.le_refl _) (.cells #[.int .i64 n, .slice none 0 0] 49)).cell (p := ⟨w.heap.size + 1, 1, none⟩) (Nat.lt_of_lt_of_le hlt1 hb2.size)).trans ((hb2.cell (p := ⟨w.heap.size + 1, 1, none⟩) hlt1).trans hc1)
        have hb12 := (hb0.trans (hb1.mono (by simp))).trans (hb2.mono (Nat.le_trans hb0.size hb1.size))
        have hlt2 := hb2.size
        clear hc0 hc1
        go_wp2_with fail
        refine (H104b.out _).mono ?_
        rintro e w3 ⟨rfl, hb3⟩
        go_wp2_with fail
        exact ⟨rfl, ⟨fun x hx => (by rw [Hpg.out] at hx; cases hx), fun _ => rfl, (hb12.alloc hb12.size _).trans (hb3.mono (by have := hb12.size; simp; omega))⟩⟩
      | some a =>
        rw [hf2] at hpg
        dsimp only at hpg
        have h104b := fun W => figure_good hf2 (by omega) W
        have H104b := Lib.hid h104b; clear h104b
        have hab := (figure_some hf2).2
        clear hf2
        have Hpg := Lib.hid hpg; clear hpg
        go_enter Tryz.func68, Tryz.ntmps68
        go_wp2_with (first
          | (go_at_call 102; refine H102.out.mono ?_; rintro e w1 ⟨rfl, hr1, hb1⟩; refine Hid.out ?_))
        have hc0 : w1.cell? ⟨w.heap.size + 1, 0, none⟩ = some (str h) := str_cells hr1 0 (by simp)
        have hc1 : w1.cell? ⟨w.heap.size + 1, 1, none⟩ = some (str r) := str_cells hr1 1 (by simp)
        have hcs : ∀ k (hk : k < gs.length), w1.cell? ⟨w.heap.size + 1, 2 + k, none⟩ = some (str gs[k]) := fun k hk => by
          have := str_cells hr1 (2 + k) (by simp; omega)
          rw [this]
          congr 2
          simp [Nat.add_comm 2 k]
        have hlt1 : w.heap.size + 1 < w1.heap.size := World.block_lt_of_cell? w1 _ hc0
        have Hcs := Lib.hid hcs; clear hcs
        refine Lib.hid ?_
        go_wp2_with fail
        refine (H104.out _).mono ?_
        rintro e w2 ⟨rfl, hb2⟩
        have hc1' := (((Below.refl w2.heap.size w2).alloc (Nat.le_refl _) (.cells #[.int .i64 n, .slice none 0 0] 49)).cell (p := ⟨w.heap.size + 1, 1, none⟩) (Nat.lt_of_lt_of_le hlt1 hb2.size)).trans ((hb2.cell (p := ⟨w.heap.size + 1, 1, none⟩) hlt1).trans hc1)
        have hb12 := (hb0.trans (hb1.mono (by simp))).trans (hb2.mono (Nat.le_trans hb0.size hb1.size))
        have hlt2 := hb2.size
        clear hc0 hc1
        go_wp2_with fail
        refine (H104b.out _).mono ?_
        rintro e w3 ⟨rfl, hb3⟩
        have kP := block_below (block_new w2 (.cells #[.int .i64 n, .slice none 0 0] 49)) hb3 (by simp)
        have hlt3 : w2.heap.size < w3.heap.size := by have := hb3.size; simp at this; omega
        have p0 := cell_of_block kP 0
        have p1 := cell_of_block kP 1
        have q1 := free_of_block kP 1
        simp at p0 p1
        have HkP := Lib.hid kP; clear kP
        have hgb := hpl
        have Hgb := Lib.hid hgb; clear hgb hpl
        have Hblk := Lib.hid hblk; clear hblk
        have hgl : gs.length ≤ 100000 := by simp at hcb; omega
        clear H102 H104 H104b hm hhl hrl hcb
        by_cases hgs : gs = []
        · subst hgs
          have hS := Hpg.out
          simp only [growAll] at hS
          have HS := Lib.hid hS; clear hS Hpg
          go_wp2_with fail
          have kP' := block_old (block_old (block_set HkP.out 1 (.slice (some ⟨w3.heap.size, 0, none⟩) 1 1)) (.cells #[.int .i64 a] 3)) (.cells #[.int .i64 0, .int .i64 0] 111)
          have hown : (((w3.setCell ⟨w2.heap.size, 1, none⟩ (.slice (some ⟨w3.heap.size, 0, none⟩) 1 1)).alloc (.cells #[.int .i64 a] 3)).alloc (.cells #[.int .i64 0, .int .i64 0] 111)).ownsRow w.heap.size 3 1 (.slice (some ⟨w3.heap.size, 0, none⟩) 1 1) 1 (intsV [(a : Int)]) := by
            refine ⟨rfl, .inr ⟨w3.heap.size, 1, #[.int .i64 a], rfl, by have := hb12.size; omega, ?_, by omega, by unfold maxLen; omega, rfl, rfl⟩⟩
            have h := block_old (block_new (w3.setCell ⟨w2.heap.size, 1, none⟩ (.slice (some ⟨w3.heap.size, 0, none⟩) 1 1)) (.cells #[.int .i64 a] 3)) (.cells #[.int .i64 0, .int .i64 0] 111)
            simpa using h
          have hbS : Below w.heap.size w (((w3.setCell ⟨w2.heap.size, 1, none⟩ (.slice (some ⟨w3.heap.size, 0, none⟩) 1 1)).alloc (.cells #[.int .i64 a] 3)).alloc (.cells #[.int .i64 0, .int .i64 0] 111)) := by
            have h3 := (hb12.alloc hb12.size (.cells #[.int .i64 n, .slice none 0 0] 49)).trans (hb3.mono (by have := hb12.size; simp; omega))
            exact ((h3.setCell (p := ⟨w2.heap.size, 1, none⟩) hb12.size _).alloc (by have := hb12.size; simp; omega) _).alloc (by have := hb12.size; simp; omega) _
          have kR := block_below Hblk.out hb1 (Nat.lt_succ_self _)
          have kR1 := block_old (block_below kR hb2 (block_lt kR)) (.cells #[.int .i64 n, .slice none 0 0] 49)
          have kR2 := block_below kR1 hb3 (block_lt kR1)
          have kR3 := block_old (block_old (block_set_other kR2 (by have := hb12.size; have := block_lt (block_below kR hb2 (block_lt kR)); omega : w.heap.size ≠ w2.heap.size) 1 (.slice (some ⟨w3.heap.size, 0, none⟩) 1 1)) (.cells #[.int .i64 a] 3)) (.cells #[.int .i64 0, .int .i64 0] 111)
          have HkP' := Lib.hid kP'; clear kP' HkP
          have Hown := Lib.hid hown; clear hown
          have HkR := Lib.hid kR3; clear kR kR1 kR2 kR3 Hblk
          clear p0 p1 q1 hc1'
          generalize ((w3.setCell ⟨w2.heap.size, 1, none⟩ (.slice (some ⟨w3.heap.size, 0, none⟩) 1 1)).alloc (.cells #[.int .i64 a] 3)).alloc (.cells #[.int .i64 0, .int .i64 0] 111) = wS at *
          go_loopw [29] (fun i wr => i = .int .i64 0 ∧ wr = wS) (fun _ _ => 0)
          case atStart => exact ⟨rfl, rfl⟩
          case round =>
            obtain ⟨rfl, rfl⟩ := hrel
            have e0 := cell_of_block HkP'.out 0
            have e1 := cell_of_block HkP'.out 1
            simp at e0 e1
            have f0 := free_of_block HkR.out 0
            have f1 := free_of_block HkR.out 1
            have r0 := cell_of_block HkR.out 0
            have r1 := cell_of_block HkR.out 1
            simp at r0 r1
            go_wp2_with fail
            obtain ⟨o1, o2, o3⟩ := page_out (c0 := .int .i64 n) (c1 := .slice (some ⟨w3.heap.size, 0, none⟩) 1 1) (rs := [(a : Int)]) Hown.out HkR.out
            refine bodyPost_ret (v := .agg #[.int .i64 n, .slice (some ⟨w3.heap.size, 0, none⟩) 1 1]) (by simp [results, Tryz.results68, go_sem, o2, o3]) rfl ⟨fun x hx => ?_, fun h => (by rw [HS.out] at h; cases h), ?_⟩
            · rw [HS.out] at hx
              injection hx with hx
              subst hx
              exact ⟨_, rfl, o1⟩
            · exact (hbS.setCell (p := ⟨w.heap.size, 0, none⟩) (Nat.le_refl _) _).setCell (p := ⟨w.heap.size, 1, none⟩) (Nat.le_refl _) _
        · have hne : ¬ gs.length = 0 := fun h => hgs (List.eq_nil_of_length_eq_zero h)
          have hgp : ∀ k (hk : k < gs.length), gs[k].length ≤ 1000000 := fun k hk => by have := Hgb.out gs[k] (by simp); omega
          have Hgp := Lib.hid hgp; clear hgp Hgb
          go_wp2_with fail
          have kP' := block_old (block_old (block_set HkP.out 1 (.slice (some ⟨w3.heap.size, 0, none⟩) 1 1)) (.cells #[.int .i64 a] 3)) (.cells #[.int .i64 0, .int .i64 0] 111)
          have kL' := block_new ((w3.setCell ⟨w2.heap.size, 1, none⟩ (.slice (some ⟨w3.heap.size, 0, none⟩) 1 1)).alloc (.cells #[.int .i64 a] 3)) (.cells #[.int .i64 0, .int .i64 0] 111)
          have hown : (((w3.setCell ⟨w2.heap.size, 1, none⟩ (.slice (some ⟨w3.heap.size, 0, none⟩) 1 1)).alloc (.cells #[.int .i64 a] 3)).alloc (.cells #[.int .i64 0, .int .i64 0] 111)).ownsRow w1.heap.size 3 1 (.slice (some ⟨w3.heap.size, 0, none⟩) 1 1) 1 (intsV [(a : Int)]) := by
            refine ⟨rfl, .inr ⟨w3.heap.size, 1, #[.int .i64 a], rfl, by omega, ?_, by omega, by unfold maxLen; omega, rfl, rfl⟩⟩
            have h := block_old (block_new (w3.setCell ⟨w2.heap.size, 1, none⟩ (.slice (some ⟨w3.heap.size, 0, none⟩) 1 1)) (.cells #[.int .i64 a] 3)) (.cells #[.int .i64 0, .int .i64 0] 111)
            simpa using h
          have hb13 : Below w1.heap.size w1 (((w3.setCell ⟨w2.heap.size, 1, none⟩ (.slice (some ⟨w3.heap.size, 0, none⟩) 1 1)).alloc (.cells #[.int .i64 a] 3)).alloc (.cells #[.int .i64 0, .int .i64 0] 111)) := by
            have h3 := (hb2.alloc hlt2 (.cells #[.int .i64 n, .slice none 0 0] 49)).trans (hb3.mono (by simp; omega))
            exact ((h3.setCell (p := ⟨w2.heap.size, 1, none⟩) hlt2 _).alloc (by simp; omega) _).alloc (by simp; omega) _
          have hb01 : Below w.heap.size w w1 := hb0.trans (hb1.mono (by simp))
          have kR := block_below Hblk.out hb1 (Nat.lt_succ_self _)
          have hE1 : Env N w1 := hE.later (hb01.mono hN)
          rw [World.size_alloc] at kL'
          rw [size_set] at kL'
          have HkP' := Lib.hid kP'; clear kP' HkP
          have HkL' := Lib.hid kL'; clear kL'
          have Hown := Lib.hid hown; clear hown
          have HkR := Lib.hid kR; clear kR Hblk
          clear p0 p1 q1 hc1'
          generalize hP : w2.heap.size = P at *
          generalize hR3 : w3.heap.size = R3 at *
          have hP1 : w1.heap.size ≤ P := hlt2
          have hRP : P < R3 := hlt3
          generalize ((w3.setCell ⟨P, 1, none⟩ (.slice (some ⟨R3, 0, none⟩) 1 1)).alloc (.cells #[.int .i64 a] 3)).alloc (.cells #[.int .i64 0, .int .i64 0] 111) = wS at *
          go_loopw [29] (fun i wr => ∃ (k : Nat) (rs : List Int) (last : Growth) (va : Value), k ≤ gs.length ∧ i = .int .i64 k ∧ growAll [(a : Int)] ⟨0, 0⟩ gs = growAll rs last (gs.drop k) ∧ rs ≠ [] ∧ rs.length ≤ 16 ∧ (∀ x ∈ rs, 0 ≤ x ∧ x ≤ rs.length * 1000000000000) ∧
            wr.heap[P]? = some (.cells #[.int .i64 n, va] 49 (0, 0)) ∧ wr.heap[R3 + 1]? = some (.cells #[.int .i64 last.many, .int .i64 last.by_] 111 (0, 0)) ∧ wr.ownsRow w1.heap.size 3 1 va rs.length (intsV rs) ∧ Below w1.heap.size w1 wr) (fun i _ => gs.length - (intOf i).toNat)
          case atStart => exact ⟨0, [(a : Int)], ⟨0, 0⟩, _, Nat.zero_le _, rfl, rfl, by simp, by simp, by simp; omega, HkP'.out, HkL'.out, Hown.out, hb13⟩
          case round =>
            obtain ⟨k, rs, last, va, hk, rfl, hgr, hrs, hr16, hrb, kP, kL, hown, hbr⟩ := hrel
            have hwr := hbr.size
            by_cases hlt : k < gs.length
            · have hdk : gs.drop k = gs[k] :: gs.drop (k + 1) := List.drop_eq_getElem_cons hlt
              have hcw := (hbr.cell (p := ⟨w.heap.size + 1, 2 + k, none⟩) hlt1).trans (Hcs.out k hlt)
              have hlw := Hgp.out k hlt
              rw [hdk, growAll] at hgr
              have hE2 := hE1.later (hbr.mono (by omega))
              cases hg : growthP gs[k] with
              | none =>
                rw [hg] at hgr
                dsimp only at hgr
                have h105 := growth_bad hg hlw N wr hE2 (by omega)
                have H105 := Lib.hid h105; clear h105 hg
                have hfin := Hpg.out
                rw [hgr] at hfin
                have Hfin := Lib.hid hfin; clear hfin hgr hdk
                generalize gs[k] = u at *
                go_wp2_with (go_at_call 105; refine H105.out.mono ?_; rintro e w4 ⟨rfl, hb4⟩)
                exact ⟨rfl, ⟨fun x hx => (by rw [Hfin.out] at hx; cases hx), fun _ => rfl, (hb01.trans (hbr.mono (by omega))).trans (hb4.mono (by omega))⟩⟩
              | some g =>
                rw [hg] at hgr
                dsimp only at hgr
                have h105 := growth_good hg hlw N wr hE2 (by omega)
                have H105 := Lib.hid h105; clear h105
                obtain ⟨g1, g2, g3, g4⟩ := (growthP_read hg).2
                clear hg
                obtain ⟨gm, d⟩ := g
                dsimp only at g1 g2 g3 g4 H105 hgr
                obtain ⟨mm, rfl⟩ := Int.eq_ofNat_of_zero_le (show 0 ≤ gm by omega)
                rw [Int.toNat_natCast] at hgr
                have Hgr := Lib.hid hgr; clear hgr hdk
                generalize gs[k] = u at *
                have Hrb := Lib.hid hrb; clear hrb
                have Hown2 := Lib.hid hown; clear hown
                have HkP2 := Lib.hid kP; clear kP
                have HkL2 := Lib.hid kL
                have hltL := block_lt kL
                have l0 := cell_of_block kL 0
                have l1 := cell_of_block kL 1
                simp at l0 l1
                clear kL
                by_cases hne : last.many = 0 ∨ last.by_ ≠ d
                · have hit : ∀ (W4 : World), Below wr.heap.size wr W4 → W4.heap.size = W4.heap.size := fun _ _ => rfl
                  clear hit
                  have hkG := fun (W4 : World) => block_new W4 (.cells #[.int .i64 mm, .int .i64 d] 111)
                  have HkG := Lib.hid hkG; clear hkG
                  have hfin := fun (ha : rs.length + mm ≤ 16) => (Hgr.out.trans (if_pos hne)).trans (if_pos ha)
                  have hbad := fun (ha : ¬ rs.length + mm ≤ 16) => (Hgr.out.trans (if_pos hne)).trans (if_neg ha)
                  have Hfin := Lib.hid hfin; clear hfin
                  have Hbad := Lib.hid hbad; clear hbad Hgr
                  by_cases hm0 : last.many = 0
                  case' pos =>
                    have hm0' : (last.many == 0) = true := by simpa using hm0
                    clear hm0 hne
                    generalize last.many = lm at *
                    generalize last.by_ = lb at *
                    go_wp2_with (go_at_call 105; refine H105.out.mono ?_; rintro e w4 ⟨rfl, hb4⟩; refine Hid.out ?_)
                    have l0' := (hb4.cell (p := ⟨R3 + 1, 0, none⟩) hltL).trans l0
                    have l1' := (hb4.cell (p := ⟨R3 + 1, 1, none⟩) hltL).trans l1
                    have hlt4 : R3 + 1 < w4.heap.size := Nat.lt_of_lt_of_le hltL hb4.size
                    refine Lib.hid ?_
                    go_wp2_with fail
                    refine (need_is (by simp) _).mono ?_
                    rintro e w5 ⟨rfl, rfl⟩
                    go_wp2_with fail
                  case' neg =>
                    have hm0' : (last.many == 0) = false := by simpa using hm0
                    have hd0 : last.by_ ≠ d := hne.resolve_left hm0
                    have Hd0 := Lib.hid hd0; clear hd0
                    clear hm0 hne
                    generalize last.many = lm at *
                    generalize last.by_ = lb at *
                    go_wp2_with (go_at_call 105; refine H105.out.mono ?_; rintro e w4 ⟨rfl, hb4⟩; refine Hid.out ?_)
                    have l0' := (hb4.cell (p := ⟨R3 + 1, 0, none⟩) hltL).trans l0
                    have l1' := (hb4.cell (p := ⟨R3 + 1, 1, none⟩) hltL).trans l1
                    have hlt4 : R3 + 1 < w4.heap.size := Nat.lt_of_lt_of_le hltL hb4.size
                    refine Lib.hid ?_
                    go_wp2_with fail
                    refine (need_is (by simp [Hd0.out]) _).mono ?_
                    rintro e w5 ⟨rfl, rfl⟩
                    go_wp2_with fail
                  all_goals
                    clear hm0' l0 l1 l0' l1'
                    have sP := block_old (block_below HkP2.out hb4 (block_lt HkP2.out)) (.cells #[.int .i64 mm, .int .i64 d] 111)
                    have sL := block_old (block_below HkL2.out hb4 hltL) (.cells #[.int .i64 mm, .int .i64 d] 111)
                    have sG := HkG.out w4
                    have sO := (own_later Hown2.out hb4).alloc (.cells #[.int .i64 mm, .int .i64 d] 111)
                    have sB : Below w1.heap.size w1 (w4.alloc (.cells #[.int .i64 mm, .int .i64 d] 111)) := (hbr.trans (hb4.mono hwr)).alloc (by have := hb4.size; omega) _
                    have SP := Lib.hid sP; clear sP
                    have SL := Lib.hid sL; clear sL
                    have SG := Lib.hid sG; clear sG
                    have SO := Lib.hid sO; clear sO
                    have hPG : P < w4.heap.size := by omega
                    clear hcw
                    generalize hG : w4.heap.size = G at *
                    generalize w4.alloc (.cells #[.int .i64 mm, .int .i64 d] 111) = wS2 at *
                    obtain ⟨wo, rfl⟩ : ∃ wo : World, wo = wr := ⟨_, rfl⟩
                    go_loopw [48] (fun j wr => ∃ (q : Nat) (xs : List Int) (va' : Value), j = .int .i64 q ∧ q ≤ mm ∧ xs = rs ++ sumsL (lastD rs) (List.replicate q d) ∧ xs ≠ [] ∧ xs.length ≤ 16 ∧ (∀ x ∈ xs, 0 ≤ x ∧ x ≤ xs.length * 1000000000000) ∧
                      wr.heap[P]? = some (.cells #[.int .i64 n, va'] 49 (0, 0)) ∧ wr.heap[R3 + 1]? = some (.cells #[.int .i64 lm, .int .i64 lb] 111 (0, 0)) ∧ wr.heap[G]? = some (.cells #[.int .i64 mm, .int .i64 d] 111 (0, 0)) ∧ wr.ownsRow w1.heap.size 3 1 va' xs.length (intsV xs) ∧ Below w1.heap.size w1 wr) (fun j _ => mm - (intOf j).toNat)
                    case atStart => exact ⟨0, rs, va, rfl, Nat.zero_le _, by simp [sumsL], hrs, hr16, Hrb.out, SP.out, SL.out, SG.out, SO.out, sB⟩
                    case round =>
                      obtain ⟨q, xs, va', rfl, hq, hxs, hxn, hx16, hxb, kP, kL, kG, hown, hbq⟩ := hrel
                      have hwq := hbq.size
                      have hxl : xs.length = rs.length + q := by rw [hxs, List.length_append, sumsL_length, List.length_replicate]
                      have Hxs := Lib.hid hxs; clear hxs
                      obtain ⟨gb, gc, rfl⟩ := own_form hown (List.length_pos_iff.2 hxn)
                      have hltP := block_lt kP
                      have hltL2 := block_lt kL
                      have hltG := block_lt kG
                      have e1 := cell_of_block kP 1
                      have f1 := free_of_block kP 1
                      have g0 := cell_of_block kG 0
                      have g1' := cell_of_block kG 1
                      simp at e1 g0 g1'
                      have HkP3 := Lib.hid kP; clear kP
                      have HkL3 := Lib.hid kL
                      have HkG3 := Lib.hid kG; clear kG
                      have HO3 := Lib.hid hown; clear hown
                      have Hxb := Lib.hid hxb; clear hxb
                      have Hxl := Lib.hid hxl; clear hxl
                      by_cases hqm : q < mm
                      · by_cases hx15 : xs.length < 16
                        · clear kL
                          have hd16 : decide ((xs.length : Int) < 16) = true := decide_eq_true (by omega)
                          have hlp := List.length_pos_iff.2 hxn
                          have hlast := lastD_last xs hxn
                          have hcl := (HO3.out.cellAt (xs.length - 1) (by omega)).trans (by rw [intsV, List.getElem?_map, hlast, Option.map_some])
                          have hlm := Hxb.out (lastD xs) (List.mem_of_getElem? hlast)
                          have hss := sums_succ 0 q d rs
                          rw [← Hxs.out] at hss
                          have Hss := Lib.hid hss; clear hss hlast
                          obtain ⟨ll, hll⟩ : ∃ ll, xs.length = ll + 1 := ⟨xs.length - 1, by omega⟩
                          have hix : xs.length - 1 = ll := by omega
                          rw [hix] at hcl
                          have hz : lastD xs ≤ 16000000000000 := by have := hlm.2; omega
                          have hz0 := hlm.1
                          have Hlm := Lib.hid hlm; clear hlm
                          generalize hzz : lastD xs = z at *
                          have Hzz := Lib.hid hzz; clear hzz hix
                          have Hll := Lib.hid hll; clear hll
                          go_wp2_with (go_at_call 48; refine (need_is rfl _).mono ?_; rintro e w8 ⟨rfl, rfl⟩)
                          have hw1 : IntKind.i64.wrap ((xs.length : Int) - 1) = (ll : Int) := by rw [IntWalk.i64_in _ (by omega), Hll.out]; omega
                          have hw2 : IntKind.i64.wrap (z + d) = z + d := IntWalk.i64_in _ (by omega)
                          have hw3 : (0 : Int) ≤ (ll : Int) := by omega
                          have hw4 : (ll : Int) < (xs.length : Int) := by have := Hll.out; omega
                          have hneP := own_ne HO3.out HkP3.out (by decide)
                          have hneG := own_ne HO3.out HkG3.out (by decide)
                          have hPg : P ≠ gb := fun e => hneP.elim (fun h => by cases h) (fun h => h (by rw [e]; rfl))
                          have hGg : G ≠ gb := fun e => hneG.elim (fun h => by cases h) (fun h => h (by rw [e]; rfl))
                          have hneL := own_ne HO3.out HkL3.out (by decide)
                          have hLg : R3 + 1 ≠ gb := fun e => hneL.elim (fun h => by cases h) (fun h => h (by rw [e]; rfl))
                          have HneP := Lib.hid hneP; clear hneP hneG hneL
                          have hgbl := (HO3.out.lt gb rfl).2
                          clear f1
                          have f1 := free_of_block HkP3.out 1
                          have hfr : ∀ o, (wr.alloc o).drew.frozen? ⟨P, 1, none⟩ = false := fun o => free_of_block (block_old HkP3.out o) 1
                          have hS0 : wr.drew.cell? ⟨P, 1, none⟩ = some (.slice (some ⟨gb, 0, none⟩) xs.length gc) ∧ wr.drew.cell? ⟨gb, ll, none⟩ = some (.int .i64 z) ∧ wr.drew.cell? ⟨G, 1, none⟩ = some (.int .i64 d) := ⟨e1, hcl, g1'⟩
                          have HS0 := Lib.hid hS0; clear hS0
                          refine wp_region_X (fun w' => w'.cell? ⟨P, 1, none⟩ = some (.slice (some ⟨gb, 0, none⟩) xs.length gc) ∧ w'.cell? ⟨gb, ll, none⟩ = some (.int .i64 z) ∧ w'.cell? ⟨G, 1, none⟩ = some (.int .i64 d)) (fun j => j == 16) (by kernel_rfl) ?_
                          refine wpAnyX_take (i := 0) (v := ?_) rfl (by kernel_rfl) (by kernel_rfl) (by kernel_rfl) (by kernel_rfl) (fun _ _ _ h => h) (Or.inl ⟨by rfl, ?_⟩) HS0.out ?_
                          rotate_left 1
                          · rintro w' ⟨s1, s2, s3⟩; go_simp
                            all_goals with_reducible rfl
                          refine wpAnyX_take (i := 1) (v := ?_) rfl (by kernel_rfl) (by kernel_rfl) (by kernel_rfl) (by kernel_rfl) (fun _ _ _ h => h) (Or.inl ⟨by rfl, ?_⟩) HS0.out ?_
                          rotate_left 1
                          · rintro w' ⟨s1, s2, s3⟩; go_simp
                            all_goals with_reducible rfl
                          refine wpAnyX_take (i := 2) (v := ?_) rfl (by kernel_rfl) (by kernel_rfl) (by kernel_rfl) (by kernel_rfl) (fun _ _ _ h => h) (Or.inl ⟨by rfl, ?_⟩) HS0.out ?_
                          rotate_left 1
                          · rintro w' ⟨s1, s2, s3⟩; go_simp
                            all_goals with_reducible rfl
                          refine wpAnyX_take (i := 3) (v := ?_) rfl (by kernel_rfl) (by kernel_rfl) (by kernel_rfl) (by kernel_rfl) (fun _ _ _ h => h) (Or.inl ⟨by rfl, ?_⟩) HS0.out ?_
                          rotate_left 1
                          · rintro w' ⟨s1, s2, s3⟩; go_simp
                            all_goals with_reducible rfl
                          refine wpAnyX_take (i := 4) (v := ?_) rfl (by kernel_rfl) (by kernel_rfl) (by kernel_rfl) (by kernel_rfl) (fun _ _ _ h => h) (Or.inl ⟨by rfl, ?_⟩) HS0.out ?_
                          rotate_left 1
                          · rintro w' ⟨s1, s2, s3⟩; go_simp
                            all_goals with_reducible rfl
                          refine wpAnyX_take (i := 5) (v := ?_) rfl (by kernel_rfl) (by kernel_rfl) (by kernel_rfl) (by kernel_rfl) (fun _ _ _ h => h) (Or.inl ⟨by rfl, ?_⟩) HS0.out ?_
                          rotate_left 1
                          · rintro w' ⟨s1, s2, s3⟩; go_simp
                            all_goals with_reducible rfl
                          refine wpAnyX_take (i := 6) (v := ?_) rfl (by kernel_rfl) (by kernel_rfl) (by kernel_rfl) (by kernel_rfl) (fun _ _ _ h => h) (Or.inl ⟨by rfl, ?_⟩) HS0.out ?_
                          rotate_left 1
                          · rintro w' ⟨s1, s2, s3⟩; go_simp
                            all_goals with_reducible rfl
                          refine wpAnyX_take (i := 7) (v := ?_) rfl (by kernel_rfl) (by kernel_rfl) (by kernel_rfl) (by kernel_rfl) (fun _ _ _ h => h) (Or.inl ⟨by rfl, ?_⟩) HS0.out ?_
                          rotate_left 1
                          · rintro w' ⟨s1, s2, s3⟩; go_simp
                            all_goals with_reducible rfl
                          refine wpAnyX_take (i := 8) (v := ?_) rfl (by kernel_rfl) (by kernel_rfl) (by kernel_rfl) (by kernel_rfl) (fun _ _ _ h => h) (Or.inl ⟨by rfl, ?_⟩) HS0.out ?_
                          rotate_left 1
                          · rintro w' ⟨s1, s2, s3⟩; go_simp
                            all_goals with_reducible rfl
                          refine wpAnyX_take (i := 9) (v := ?_) rfl (by kernel_rfl) (by kernel_rfl) (by kernel_rfl) (by kernel_rfl) (fun _ _ _ h => h) (Or.inl ⟨by rfl, ?_⟩) HS0.out ?_
                          rotate_left 1
                          · rintro w' ⟨s1, s2, s3⟩; go_simp
                            all_goals with_reducible rfl
                          refine wpAnyX_take (i := 10) (v := ?_) rfl (by kernel_rfl) (by kernel_rfl) (by kernel_rfl) (by kernel_rfl) (fun _ _ _ h => h) (Or.inl ⟨by rfl, ?_⟩) HS0.out ?_
                          rotate_left 1
                          · rintro w' ⟨s1, s2, s3⟩; go_simp
                            all_goals with_reducible rfl
                          refine wpAnyX_take (i := 11) (v := ?_) rfl (by kernel_rfl) (by kernel_rfl) (by kernel_rfl) (by kernel_rfl) (fun _ _ _ h => h) (Or.inl ⟨by rfl, ?_⟩) HS0.out ?_
                          rotate_left 1
                          · rintro w' ⟨s1, s2, s3⟩; go_simp
                            all_goals with_reducible rfl
                          refine wpAnyX_take (i := 12) (v := ?_) rfl (by kernel_rfl) (by kernel_rfl) (by kernel_rfl) (by kernel_rfl) (fun _ _ _ h => h) (Or.inl ⟨by rfl, ?_⟩) HS0.out ?_
                          rotate_left 1
                          · rintro w' ⟨s1, s2, s3⟩; go_simp
                            all_goals with_reducible rfl
                          refine wpAnyX_one (i := 13) (by kernel_rfl) rfl (fun K hK => ?_)
                          go_simp
                          refine hK _ _ (fun _ => by go_simp) ?_
                          clear hK K
                          refine wpAnyX_one (i := 14) (by kernel_rfl) rfl (fun K hK => ?_)
                          refine step_append_kept _ (by rfl) _ _ 47 (by rfl) w1.heap.size 3 i0 (.int .i64 0) 1 8 Tryz.underlying47 ihi ihz0 ihz1 ihz2 rfl (by decide) gb xs.length gc (intsV xs) (by rfl) (by exact (HO3.out.drew).alloc _) ⟨wr.heap.size, 0, none⟩ 1 1 [.int .i64 (z + d)] (by rfl) (by rfl) (by exact cell_one_new _ _ _) (fun x hx => by simp at hx; subst hx; rfl) (by unfold maxLen; omega) (by omega) (by simp; omega) ?_
                          intro v' w9 hown9 hgrow hcold
                          obtain ⟨g', cap', rfl⟩ := ownsRow_succ hown9
                          have hblk9 := (hgrow.block P (by show P < (wr.alloc _).heap.size; simp; omega) (by simp; omega)).trans (block_old HkP3.out (.cells #[.int .i64 (z + d)] 3))
                          have hblkG9 := (hgrow.block G (by show G < (wr.alloc _).heap.size; simp; omega) (by simp; omega)).trans (block_old HkG3.out (.cells #[.int .i64 (z + d)] 3))
                          have hblkL9 := (hgrow.block (R3 + 1) (by show R3 + 1 < (wr.alloc _).heap.size; simp; omega) (by simp; omega)).trans (block_old HkL3.out (.cells #[.int .i64 (z + d)] 3))
                          have k1 := cell_of_block hblk9 1
                          have k2 := free_of_block hblk9 1
                          have k3 := cell_of_block hblkG9 1
                          simp at k1 k3
                          have k4 : w9.cell? ⟨gb, ll, none⟩ = some (.int .i64 z) := (hcold ll (by have := Hll.out; omega)).trans ((((Below.refl wr.heap.size wr).alloc (Nat.le_refl _) (.cells #[.int .i64 (z + d)] 3)).cell (p := ⟨gb, ll, none⟩) hgbl).trans hcl)
                          have Hblk9 := Lib.hid hblk9; clear hblk9
                          have HblkG9 := Lib.hid hblkG9; clear hblkG9
                          have HblkL9 := Lib.hid hblkL9; clear hblkL9
                          have Hown9 := Lib.hid hown9; clear hown9
                          have hb9 : Below w1.heap.size w1 w9 := Below.grown (w := (wr.alloc (.cells #[.int .i64 (z + d)] 3)).drew) ((hbq.alloc hwq _).drew) hgrow (by show w1.heap.size ≤ (wr.alloc _).heap.size; simp; omega) (fun j hj => by injection hj with hj; subst hj; exact (HO3.out.lt gb rfl).1)
                          refine hK _ _ (fun _ => ⟨k1, k4, k3⟩) ?_
                          clear hK K hgrow hcold
                          refine wpAnyX_one (i := 15) (by kernel_rfl) rfl (fun K hK => ?_)
                          go_simp
                          refine hK _ _ (fun _ => ⟨k1, k4, k3⟩) ?_
                          clear hK K
                          refine wpAnyX_one (i := 16) (by kernel_rfl) rfl (fun K hK => ?_)
                          go_simp
                          refine hK _ _ (fun h => by cases h) ?_
                          clear hK K
                          refine wpAnyX_done (by kernel_rfl) ?_
                          go_wp2_with fail
                          go_roundw
                          case rel =>
                            refine ⟨q + 1, xs ++ [z + d], .slice (some ⟨g', 0, none⟩) (xs.length + 1) cap', by go_num, by omega, ?_, by simp, ?_, ?_, ?_, block_set_other HblkL9.out (by omega) 1 _, block_set_other HblkG9.out (by omega) 1 _, ?_, hb9.setCell (p := ⟨P, 1, none⟩) hP1 _⟩
                            · rw [sums_succ 0, ← Hxs.out, Hzz.out]
                            · rw [List.length_append, List.length_singleton]; omega
                            · intro x hx
                              rw [List.length_append, List.length_singleton]
                              rcases List.mem_append.1 hx with hx | hx
                              · have := Hxb.out x hx; push_cast; omega
                              · rw [List.mem_singleton] at hx
                                have := Hlm.out; push_cast; omega
                            · have h := block_set Hblk9.out 1 (.slice (some ⟨g', 0, none⟩) (xs.length + 1) cap')
                              simpa using h
                            · have h := Hown9.out.kept (grownBy_setCell P 1 (.slice (some ⟨g', 0, none⟩) (xs.length + 1) cap')) (own_ne Hown9.out Hblk9.out (by decide))
                              rw [List.length_append, List.length_singleton, intsV, List.map_append]
                              exact h
                          case measure => simp [intOf]; omega
                        · have hx : xs.length = 16 := by omega
                          have hnone := Hbad.out (by have := Hxl.out; omega)
                          have hfin := Hpg.out
                          rw [hnone] at hfin
                          have Hf := Lib.hid hfin; clear hfin hnone
                          clear kL
                          have hd16 : decide ((xs.length : Int) < 16) = false := decide_eq_false (by omega)
                          clear hx
                          go_wp2_with (go_at_call 48; refine (need_not rfl _).mono ?_; rintro e w8 ⟨rfl, rfl⟩)
                          exact ⟨rfl, ⟨fun x hx => (by rw [Hf.out] at hx; cases hx), fun _ => rfl, hb01.trans (hbq.mono hb01.size)⟩⟩
                      · have l0 := cell_of_block kL 0
                        have l1 := cell_of_block kL 1
                        have n0 := free_of_block kL 0
                        have n1 := free_of_block kL 1
                        simp at l0 l1
                        clear kL
                        obtain rfl : q = mm := by omega
                        have hadd := Hfin.out (by have := Hxl.out; omega)
                        have hx := Hxs.out
                        rw [← hx] at hadd
                        have Hadd := Lib.hid hadd; clear hadd hx
                        go_wp2_with fail
                        go_roundw
                        case rel =>
                          refine ⟨k + 1, xs, ⟨q, d⟩, _, by omega, by go_num, Hadd.out, hxn, hx16, Hxb.out, block_set_other (block_set_other HkP3.out (by omega) 0 _) (by omega) 1 _, ?_, (HO3.out.kept (grownBy_setCell _ _ _) (own_ne HO3.out HkL3.out (by decide))).kept (grownBy_setCell _ _ _) (own_ne HO3.out HkL3.out (by decide)), (hbq.setCell (p := ⟨R3 + 1, 0, none⟩) (by show w1.heap.size ≤ R3 + 1; omega) _).setCell (p := ⟨R3 + 1, 1, none⟩) (by show w1.heap.size ≤ R3 + 1; omega) _⟩
                          have h := block_set (block_set HkL3.out 0 (.int .i64 q)) 1 (.int .i64 d)
                          simpa using h
                        case measure => simp [intOf]; omega
                · have hm0 : (last.many == 0) = false := by simpa using fun h => hne (.inl h)
                  have hd0 : last.by_ = d := by
                    by_cases h : last.by_ = d
                    · exact h
                    · exact absurd (.inr h) hne
                  have hfin := Hpg.out
                  rw [Hgr.out, if_neg hne] at hfin
                  have Hfin := Lib.hid hfin; clear hfin
                  have Hd0 := Lib.hid hd0; clear hd0 hne
                  generalize last.many = lm at *
                  generalize last.by_ = lb at *
                  go_wp2_with (go_at_call 105; refine H105.out.mono ?_; rintro e w4 ⟨rfl, hb4⟩; refine Hid.out ?_)
                  have l0' := (hb4.cell (p := ⟨R3 + 1, 0, none⟩) hltL).trans l0
                  have l1' := (hb4.cell (p := ⟨R3 + 1, 1, none⟩) hltL).trans l1
                  have hlt4 : R3 + 1 < w4.heap.size := Nat.lt_of_lt_of_le hltL hb4.size
                  refine Lib.hid ?_
                  go_wp2_with fail
                  refine (need_not (by simp [Hd0.out]) _).mono ?_
                  rintro e w5 ⟨rfl, rfl⟩
                  go_wp2_with fail
                  exact ⟨rfl, ⟨fun x hx => (by rw [Hfin.out] at hx; cases hx), fun _ => rfl, ((hb01.trans (hbr.mono (by omega))).trans (hb4.mono (by omega))).alloc (by have := hb4.size; omega) _⟩⟩
            · obtain rfl : k = gs.length := by omega
              rw [List.drop_length, growAll] at hgr
              have hfin := Hpg.out
              rw [hgr] at hfin
              dsimp only at hfin
              have Hfin := Lib.hid hfin; clear hfin hgr
              have hkR := block_below HkR.out hbr (block_lt HkR.out)
              have HkR2 := Lib.hid hkR
              have e0 := cell_of_block kP 0
              have e1 := cell_of_block kP 1
              simp at e0 e1
              have f0 := free_of_block hkR 0
              have f1 := free_of_block hkR 1
              have r0 := cell_of_block hkR 0
              have r1 := cell_of_block hkR 1
              simp at r0 r1
              obtain ⟨o1, o2, o3⟩ := page_out (c0 := .int .i64 n) (c1 := va) (own_le hown hb01.size) hkR
              obtain ⟨ga, gc, rfl, _, _⟩ := own_slice hown
              have Ho1 := Lib.hid o1; clear o1
              have Ho2 := Lib.hid o2; clear o2
              have Ho3 := Lib.hid o3; clear o3
              have Hown2 := Lib.hid hown; clear hown hkR
              have HkP2 := Lib.hid kP; clear kP
              clear kL
              go_wp2_with fail
              have d2 := Ho2.out
              have d3 := Ho3.out
              refine bodyPost_ret (v := .agg #[.int .i64 n, .slice ga rs.length gc]) (by simp [results, Tryz.results68, go_sem, d2, d3]) rfl ⟨fun x hx => ?_, fun h => (by rw [Hfin.out] at h; cases h), ?_⟩
              · rw [Hfin.out] at hx
                injection hx with hx
                subst hx
                exact ⟨_, rfl, Ho1.out⟩
              · exact ((hb01.trans (hbr.mono (by omega))).setCell (p := ⟨w.heap.size, 0, none⟩) (Nat.le_refl _) _).setCell (p := ⟨w.heap.size, 1, none⟩) (Nat.le_refl _) _
end Go.Proofs.YtjmhpfedglindaaGreatDoor
