/- X4: ReadPages. (Its first theorems are printed by gen_read.py out of R2.) -/
import Derived.Test.YtjmhpfedglindaaGreatDoorX3
import Derived.Defers
import Derived.Recover
set_option linter.unusedVariables false
set_option linter.unusedSimpArgs false
namespace Go.Proofs.YtjmhpfedglindaaGreatDoor
open Go.RowKit

set_option maxRecDepth 100000 in
set_option maxHeartbeats 4000000 in
theorem catch100_panicking (p q : Nat) (w : World) (hp : ∃ v, w.heap[p]? = some (.cells #[v] 34 (0, 0))) (hq : ∃ v, w.heap[q]? = some (.cells #[v] 26 (0, 0))) (hpq : p ≠ q) :
    CallsD Tryz.prog 100 #[.pointer (some ⟨p, 0, none⟩), .pointer (some ⟨q, 0, none⟩)] (.panicking misfit) w fun e u' w' =>
      e = .returned (.tuple #[]) ∧ u' = .panicking [{ v := .iface 132 (.agg #[.int .i64 8]), recovered := true }] ∧ w'.cell? ⟨p, 0, none⟩ = some (.slice none 0 0) ∧ w'.cell? ⟨q, 0, none⟩ = some (.int .i64 8) ∧ ∀ B, B ≤ p → B ≤ q → B ≤ w.heap.size → Below B w w' := by
  obtain ⟨vp, hp⟩ := hp
  obtain ⟨vq, hq⟩ := hq
  refine callsD_of_wpS Tryz.func100 rfl fun c₀ cs hu => ?_
  simp only [Tryz.ntmps100, List.size_toArray, List.length_cons, List.length_nil, Nat.reduceAdd, Nat.reduceSub, Array.replicate_succ, Array.replicate_zero, List.push_toArray, List.append_toArray, List.nil_append, List.cons_append]
  apply wpS_seq
  apply wpS_region
  simp [wpOpsS, go_sem, recoverD, hu, misfit, Tryz.ntmps100, Exit.thenS]
  refine wpS_of_wp ?_
  have c0 : w.cell? ⟨p, 0, none⟩ = some vp := by simpa using cell_of_block hp 0
  have c1 : w.cell? ⟨q, 0, none⟩ = some vq := by simpa using cell_of_block hq 0
  have f0 := free_of_block hp 0
  have f1 := free_of_block hq 0
  have hlp := block_lt hp
  have hlq := block_lt hq
  have hta : ∀ w, (Instr.typeAssert (.iface 132 (.agg #[.int .i64 8])) 20 132 true).run Tryz.prog w = .ok (.tuple #[.agg #[.int .i64 8], .bool true]) w := fun _ => by kernel_rfl
  go_wp2_with fail
  go_region
  all_goals (
    go_wp2_with fail
    refine ⟨rfl, _, rfl, _, results_none rfl _ _ _, rfl, rfl, ?_, ?_, ?_⟩
    · have hb := block_old (block_set_other (block_set hp 0 (.slice none 0 0)) hpq 0 (.int .i64 8)) (.cells #[.int .i64 8] 132)
      exact (by simpa using cell_of_block hb 0)
    · have hb := block_old (block_set (block_set_other hq hpq.symm 0 (.slice none 0 0)) 0 (.int .i64 8)) (.cells #[.int .i64 8] 132)
      exact (by simpa using cell_of_block hb 0)
    · intro B h1 h2 h3
      exact ((((Below.refl B w).setCell (p := ⟨p, 0, none⟩) h1 _).setCell (p := ⟨q, 0, none⟩) h2 _).alloc (by simpa using h3) _).drew)

theorem catch100_idle (p q : Value) (w : World) :
    CallsD Tryz.prog 100 #[p, q] .returning w fun e u' w' => e = .returned (.tuple #[]) ∧ u' = .returning ∧ w' = w := by
  refine callsD_of_wpS Tryz.func100 rfl fun c₀ cs hu => ?_
  simp only [Tryz.ntmps100, List.size_toArray, List.length_cons, List.length_nil, Nat.reduceAdd, Nat.reduceSub, Array.replicate_succ, Array.replicate_zero, List.push_toArray, List.append_toArray, List.nil_append, List.cons_append]
  apply wpS_seq
  apply wpS_region
  simp [wpOpsS, go_sem, recoverD, hu, Tryz.ntmps100, Exit.thenS]
  refine wpS_of_wp ?_
  go_wp2_with fail
  exact ⟨rfl, .returning, by cases c₀; simp_all, _, results_none rfl _ _ _, rfl, rfl, rfl⟩

set_option maxRecDepth 100000 in
set_option maxHeartbeats 4000000 in
theorem read65_any (x : Value) (w : World) (Pok : Option Addr → Nat → Nat → World → Prop) (bad : Prop)
    (H : Calls Tryz.prog 66 #[x] ((w.alloc (.cells #[.slice none 0 0] 34)).alloc (.cells #[.int .i64 0] 26)) fun e W' => ((∃ a n c, e = .returned (.slice a n c) ∧ Pok a n c W') ∨ (e = .panicked misfit ∧ bad)) ∧ Below (w.heap.size + 2) ((w.alloc (.cells #[.slice none 0 0] 34)).alloc (.cells #[.int .i64 0] 26)) W') :
    Calls Tryz.prog 65 #[.func (.func 66) #[] #[x]] w fun e W' => ((∃ a n c W1, e = .returned (.tuple #[.slice a n c, .int .i64 0]) ∧ Pok a n c W1 ∧ Below (w.heap.size + 2) ((w.alloc (.cells #[.slice none 0 0] 34)).alloc (.cells #[.int .i64 0] 26)) W1 ∧ W' = (W1.setCell ⟨w.heap.size, 0, none⟩ (.slice a n c)).setCell ⟨w.heap.size + 1, 0, none⟩ (.int .i64 0)) ∨ (e = .returned (.tuple #[.slice none 0 0, .int .i64 8]) ∧ bad)) ∧ Below w.heap.size w W' := by
  have hmf : ∀ (fn : Fn) (first cap : Array Value) (w : World), (Instr.makeFunc fn first cap).run Tryz.prog w = .ok (.func fn first cap) w := fun _ _ _ _ => rfl
  have hb0 : Below w.heap.size w ((w.alloc (.cells #[.slice none 0 0] 34)).alloc (.cells #[.int .i64 0] 26)) := ((Below.refl _ w).alloc (Nat.le_refl _) _).alloc (by simp) _
  have hp0 := block_old (block_new w (.cells #[.slice none 0 0] 34)) (.cells #[.int .i64 0] 26)
  have hq0 := block_new (w.alloc (.cells #[.slice none 0 0] 34)) (.cells #[.int .i64 0] 26)
  rw [World.size_alloc] at hq0
  have HH := Lib.hid H; clear H
  go_enter_defers Tryz.func65, Tryz.ntmps65
  go_wp2_with (go_at_call 66; refine HH.out.mono ?_; rintro e W1 ⟨⟨a, n, c, rfl, hok⟩ | ⟨rfl, hbad⟩, hb1⟩ <;> refine Hid.out ?_)
  · have hp1 := block_below hp0 hb1 (by omega)
    have hq1 := block_below hq0 hb1 (by omega)
    have hbw := hb0.trans (hb1.mono (by omega))
    have c0 := cell_of_block hp1 0
    have c1 := cell_of_block hq1 0
    have f0 := free_of_block hp1 0
    have f1 := free_of_block hq1 0
    simp at c0 c1
    refine Lib.hid ?_
    go_wp2_with fail
    have hpf := block_set_other (block_set hp1 0 (.slice a n c)) (by omega : w.heap.size ≠ w.heap.size + 1) 0 (.int .i64 0)
    have hqf := block_set (block_set_other hq1 (by omega : w.heap.size + 1 ≠ w.heap.size) 0 (.slice a n c)) 0 (.int .i64 0)
    have d0 := cell_of_block hpf 0
    have d1 := cell_of_block hqf 0
    simp at d0 d1
    refine leaves_cons (f := 100) (args := #[.pointer (some ⟨w.heap.size, 0, none⟩), .pointer (some ⟨w.heap.size + 1, 0, none⟩)]) (by simp) (by simp [go_sem]) ?_
    refine (catch100_idle _ _ _).mono ?_
    rintro e u' w'' ⟨rfl, rfl, rfl⟩
    refine ⟨.tuple #[.slice a n c, .int .i64 0], by simp [results, Tryz.results65, go_sem, d0, d1], ?_⟩
    exact ⟨.inl ⟨a, n, c, W1, rfl, hok, hb1, rfl⟩, (hbw.setCell (p := ⟨w.heap.size, 0, none⟩) (Nat.le_refl _) _).setCell (p := ⟨w.heap.size + 1, 0, none⟩) (Nat.le_succ _) _⟩
  · have hp1 := block_below hp0 hb1 (by omega)
    have hq1 := block_below hq0 hb1 (by omega)
    have hbw := hb0.trans (hb1.mono (by omega))
    refine Lib.hid ?_
    go_wp2_with fail
    refine leaves_cons (f := 100) (args := #[.pointer (some ⟨w.heap.size, 0, none⟩), .pointer (some ⟨w.heap.size + 1, 0, none⟩)]) (by simp) (by simp [go_sem]) ?_
    refine (catch100_panicking _ _ _ ⟨_, hp1⟩ ⟨_, hq1⟩ (by omega)).mono ?_
    rintro e u' w'' ⟨rfl, rfl, d0, d1, hbe⟩
    have hfin := hbw.trans (hbe w.heap.size (Nat.le_refl _) (by omega) hbw.size)
    simp [Leaves, settle, results, Tryz.results65, go_sem, d0, d1]
    exact ⟨hbad, hfin⟩

set_option maxRecDepth 100000 in
set_option maxHeartbeats 4000000 in
theorem readPages_any (N : Nat) (t : List UInt8) (w : World) (hlen : t.length ≤ 99999) (hN : N ≤ w.heap.size) (hE : Env N w) :
    Calls Tryz.prog 22 #[str t] w fun e W' => ((∃ xs v, readPg t = some xs ∧ e = .returned (.tuple #[v, .int .i64 0]) ∧ NestP w.heap.size W' v xs) ∨ (readPg t = none ∧ e = .returned (.tuple #[.slice none 0 0, .int .i64 8]))) ∧ Below w.heap.size w W' := by
  have hmf : ∀ (fn : Fn) (first cap : Array Value) (w : World), (Instr.makeFunc fn first cap).run Tryz.prog w = .ok (.func fn first cap) w := fun _ _ _ _ => rfl
  have hb0 : Below w.heap.size w (w.alloc (.cells #[str t] 9)) := (Below.refl _ w).alloc (Nat.le_refl _) _
  have hb3 : Below w.heap.size w (((w.alloc (.cells #[str t] 9)).alloc (.cells #[.slice none 0 0] 34)).alloc (.cells #[.int .i64 0] 26)) := (hb0.alloc (by simp) _).alloc (by simp; omega) _
  have hbox := block_old (block_old (block_new w (.cells #[str t] 9)) (.cells #[.slice none 0 0] 34)) (.cells #[.int .i64 0] 26)
  have hsz : (((w.alloc (.cells #[str t] 9)).alloc (.cells #[.slice none 0 0] 34)).alloc (.cells #[.int .i64 0] 26)).heap.size = w.heap.size + 3 := by simp
  have h44 := readPg1_any N t w.heap.size _ hlen (by rw [hsz]; omega) (hE.later (hb3.mono hN)) (by simpa using cell_of_block hbox 0)
  rw [hsz] at h44
  have hs1 : (w.alloc (.cells #[str t] 9)).heap.size = w.heap.size + 1 := by simp
  have h43 := read65_any (.pointer (some ⟨w.heap.size, 0, none⟩)) (w.alloc (.cells #[str t] 9))
    (fun a' n c W' => ∃ xs, readPg t = some xs ∧ NestP (w.heap.size + 3) W' (.slice a' n c) xs) (readPg t = none) (by
      refine h44.mono ?_
      rintro e W' ⟨h1, h2, h3⟩
      rw [hs1]
      refine ⟨?_, h3⟩
      cases hrp : readPg t with
      | none => exact .inr ⟨h2 hrp, rfl⟩
      | some xs =>
        obtain ⟨v, rfl, hown⟩ := h1 xs hrp
        obtain ⟨a', n', c, rfl⟩ := hown.slice
        exact .inl ⟨a', _, c, rfl, xs, rfl, hown⟩)
  rw [hs1] at h43
  have H43 := Lib.hid h43; clear h43 h44
  go_enter Tryz.func22, Tryz.ntmps22
  go_wp2_with (go_at_call 65; refine H43.out.mono ?_; rintro e W2 ⟨⟨a', n, c, W1, rfl, ⟨xs, hrp, hown⟩, hb1, rfl⟩ | ⟨rfl, hnone⟩, hb⟩ <;> refine Hid.out ?_)
  · refine Lib.hid ?_
    go_wp2_with fail
    go_ret2
    refine ⟨.inl ⟨xs, _, hrp, rfl, ?_⟩, hb0.trans (hb.mono (by omega))⟩
    exact ((hown.set (by show w.heap.size + 1 < _; omega) _).set (by show w.heap.size + 1 + 1 < _; omega) _).le (by omega)
  · refine Lib.hid ?_
    go_wp2_with fail
    go_ret2
    exact ⟨.inr ⟨hnone, rfl⟩, hb0.trans (hb.mono (by omega))⟩
end Go.Proofs.YtjmhpfedglindaaGreatDoor
