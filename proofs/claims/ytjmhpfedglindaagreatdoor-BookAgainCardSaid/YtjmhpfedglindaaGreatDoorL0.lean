/- L0: the books of the examples; SamePlates. -/
import Derived.Test.YtjmhpfedglindaaGreatDoorR2
import Derived.Test.YtjmhpfedglindaaGreatDoorD1
import Derived.Laws.StructEq
set_option linter.unusedVariables false
set_option linter.unusedSimpArgs false
namespace Go.Proofs.YtjmhpfedglindaaGreatDoor
open Go.RowKit

def sheets0 : List Sheet := [⟨42, [⟨100, 500, 495⟩, ⟨1000, 2000, 2010⟩]⟩]
def plates0 : List Plate := [⟨5, 2, 9⟩, ⟨6, 2, 9⟩]
def pages0 : List Page := [⟨7, [100, 110, 120, 130, 135]⟩, ⟨8, [5]⟩, ⟨9, []⟩]

theorem plates_any (w : World) : Calls Tryz.prog 35 #[] w fun e W => e = .returned (.slice (some ⟨w.heap.size, 0, none⟩) 2 2) ∧ RowsR plateR 3 W.heap.size W (some ⟨w.heap.size, 0, none⟩) plates0 ∧ Below w.heap.size w W := by
  go_enter Tryz.func35, Tryz.ntmps35
  go_wp2
  go_ret
  refine ⟨rfl, ?_, (Below.refl _ _).alloc (Nat.le_refl _) _⟩
  have hb := block_new w (.cells #[.int .i64 5, .int .i64 2, .int .i64 9, .int .i64 6, .int .i64 2, .int .i64 9] 51)
  intro j hj
  match j, hj with
  | 0, _ => exact ⟨_, _, [.int .i64 5, .int .i64 2, .int .i64 9], rfl, by simp, rfl, rfl, fun i hi => by rw [cell_of_block hb]; match i, hi with | 0, _ => rfl | 1, _ => rfl | 2, _ => rfl⟩
  | 1, _ => exact ⟨_, _, [.int .i64 6, .int .i64 2, .int .i64 9], rfl, by simp, rfl, rfl, fun i hi => by rw [cell_of_block hb]; match i, hi with | 0, _ => rfl | 1, _ => rfl | 2, _ => rfl⟩

theorem sheets_any (w : World) : Calls Tryz.prog 34 #[] w fun e W => e = .returned (.slice (some ⟨w.heap.size + 1, 0, none⟩) 1 1) ∧ RowsR sheetR 2 W.heap.size W (some ⟨w.heap.size + 1, 0, none⟩) sheets0 ∧ Below w.heap.size w W := by
  go_enter Tryz.func34, Tryz.ntmps34
  go_wp2
  go_ret
  refine ⟨rfl, ?_, ((Below.refl _ _).alloc (Nat.le_refl _) _).alloc (by simp) _⟩
  have hb := block_old (block_new w (.cells #[.int .i64 100, .int .i64 500, .int .i64 495, .int .i64 1000, .int .i64 2000, .int .i64 2010] 101)) (.cells #[.int .i64 42, .slice (some ⟨w.heap.size, 0, none⟩) 2 2] 46)
  have hc := block_new (w.alloc (.cells #[.int .i64 100, .int .i64 500, .int .i64 495, .int .i64 1000, .int .i64 2000, .int .i64 2010] 101)) (.cells #[.int .i64 42, .slice (some ⟨w.heap.size, 0, none⟩) 2 2] 46)
  rw [World.size_alloc] at hc
  intro j hj
  match j, hj with
  | 0, _ =>
    refine ⟨_, _, [.int .i64 42, .slice (some ⟨w.heap.size, 0, none⟩) 2 2], rfl, by simp, ⟨some ⟨w.heap.size, 0, none⟩, 2, rfl, by simp [sheets0], by omega, ?_⟩, rfl, fun i hi => by rw [cell_of_block hc]; match i, hi with | 0, _ => rfl | 1, _ => rfl⟩
    intro j hj
    match j, hj with
    | 0, _ => exact ⟨_, _, [.int .i64 100, .int .i64 500, .int .i64 495], rfl, by simp; omega, rfl, rfl, fun i hi => by rw [cell_of_block hb]; match i, hi with | 0, _ => rfl | 1, _ => rfl | 2, _ => rfl⟩
    | 1, _ => exact ⟨_, _, [.int .i64 1000, .int .i64 2000, .int .i64 2010], rfl, by simp; omega, rfl, rfl, fun i hi => by rw [cell_of_block hb]; match i, hi with | 0, _ => rfl | 1, _ => rfl | 2, _ => rfl⟩

theorem pages_any (w : World) : Calls Tryz.prog 25 #[] w fun e W => e = .returned (.slice (some ⟨w.heap.size + 2, 0, none⟩) 3 3) ∧ RowsR pageR 2 W.heap.size W (some ⟨w.heap.size + 2, 0, none⟩) pages0 ∧ Below w.heap.size w W := by
  go_enter Tryz.func25, Tryz.ntmps25
  go_wp2
  go_ret
  refine ⟨rfl, ?_, (((Below.refl _ _).alloc (Nat.le_refl _) _).alloc (by simp) _).alloc (by simp; omega) _⟩
  have h1 := block_old (block_old (block_new w (.cells #[.int .i64 100, .int .i64 110, .int .i64 120, .int .i64 130, .int .i64 135] 3)) (.cells #[.int .i64 5] 3)) (.cells #[.int .i64 7, .slice (some ⟨w.heap.size, 0, none⟩) 5 5, .int .i64 8, .slice (some ⟨w.heap.size + 1, 0, none⟩) 1 1, .int .i64 9, .slice none 0 0] 49)
  have h2 := block_old (block_new (w.alloc (.cells #[.int .i64 100, .int .i64 110, .int .i64 120, .int .i64 130, .int .i64 135] 3)) (.cells #[.int .i64 5] 3)) (.cells #[.int .i64 7, .slice (some ⟨w.heap.size, 0, none⟩) 5 5, .int .i64 8, .slice (some ⟨w.heap.size + 1, 0, none⟩) 1 1, .int .i64 9, .slice none 0 0] 49)
  have h3 := block_new ((w.alloc (.cells #[.int .i64 100, .int .i64 110, .int .i64 120, .int .i64 130, .int .i64 135] 3)).alloc (.cells #[.int .i64 5] 3)) (.cells #[.int .i64 7, .slice (some ⟨w.heap.size, 0, none⟩) 5 5, .int .i64 8, .slice (some ⟨w.heap.size + 1, 0, none⟩) 1 1, .int .i64 9, .slice none 0 0] 49)
  rw [World.size_alloc] at h2
  rw [World.size_alloc, World.size_alloc] at h3
  intro j hj
  match j, hj with
  | 0, _ =>
    refine ⟨_, _, [.int .i64 7, .slice (some ⟨w.heap.size, 0, none⟩) 5 5], rfl, by simp, ⟨some ⟨w.heap.size, 0, none⟩, 5, rfl, by simp [pages0], by omega, ?_⟩, rfl, fun i hi => by rw [cell_of_block h3]; match i, hi with | 0, _ => rfl | 1, _ => rfl⟩
    intro j hj
    match j, hj with
    | 0, _ => exact ⟨_, _, [.int .i64 100], rfl, by simp; omega, rfl, rfl, fun i hi => by rw [cell_of_block h1]; match i, hi with | 0, _ => rfl⟩
    | 1, _ => exact ⟨_, _, [.int .i64 110], rfl, by simp; omega, rfl, rfl, fun i hi => by rw [cell_of_block h1]; match i, hi with | 0, _ => rfl⟩
    | 2, _ => exact ⟨_, _, [.int .i64 120], rfl, by simp; omega, rfl, rfl, fun i hi => by rw [cell_of_block h1]; match i, hi with | 0, _ => rfl⟩
    | 3, _ => exact ⟨_, _, [.int .i64 130], rfl, by simp; omega, rfl, rfl, fun i hi => by rw [cell_of_block h1]; match i, hi with | 0, _ => rfl⟩
    | 4, _ => exact ⟨_, _, [.int .i64 135], rfl, by simp; omega, rfl, rfl, fun i hi => by rw [cell_of_block h1]; match i, hi with | 0, _ => rfl⟩
  | 1, _ =>
    refine ⟨_, _, [.int .i64 8, .slice (some ⟨w.heap.size + 1, 0, none⟩) 1 1], rfl, by simp, ⟨some ⟨w.heap.size + 1, 0, none⟩, 1, rfl, by simp [pages0], by omega, ?_⟩, rfl, fun i hi => by rw [cell_of_block h3]; match i, hi with | 0, _ => rfl | 1, _ => rfl⟩
    intro j hj
    match j, hj with
    | 0, _ => exact ⟨_, _, [.int .i64 5], rfl, by simp, rfl, rfl, fun i hi => by rw [cell_of_block h2]; match i, hi with | 0, _ => rfl⟩
  | 2, _ =>
    refine ⟨_, _, [.int .i64 9, .slice none 0 0], rfl, by simp, ⟨none, 0, rfl, by simp [pages0], by omega, fun j hj => (by simp [pages0] at hj)⟩, rfl, fun i hi => by rw [cell_of_block h3]; match i, hi with | 0, _ => rfl | 1, _ => rfl⟩

theorem neq51 (a b c d e f : Int) (w : World) : (binOp BinOp.neq 51 (.agg #[.int .i64 a, .int .i64 b, .int .i64 c]) (.agg #[.int .i64 d, .int .i64 e, .int .i64 f])).run Tryz.prog w = .ok (.bool (!decide ((⟨a, b, c⟩ : Plate) = ⟨d, e, f⟩))) w := by
  rw [run_neq_struct, run_equalIn_agg w 9999 51 _ _ (by kernel_rfl) (by kernel_rfl)]
  have hint : ∀ (d' : Nat) (x y : Int) (w : World), (Op.equalIn (d' + 1) 3 (.int .i64 x) (.int .i64 y)).run Tryz.prog w = .ok (x == y) w := fun d' x y w => run_equalIn_int w d' 3 .i64 .i64 x y Tryz.underlying3
  by_cases h1 : a = d <;> by_cases h2 : b = e <;> by_cases h3 : c = f <;> simp [Program.fieldsOf, Tryz.underlying51, Op.eqFields, go_sem, hint, h1, h2, h3]

set_option maxRecDepth 100000 in
set_option maxHeartbeats 4000000 in
theorem samePlates_any (N : Nat) (xs ys : List Plate) (a b : Option Addr) (c d : Nat) (w : World) (hx : RowsR plateR 3 N w a xs) (hy : RowsR plateR 3 N w b ys) (hl : xs.length ≤ 100000) (hm : ys.length ≤ 100000) :
    Calls Tryz.prog 18 #[.slice a xs.length c, .slice b ys.length d] w fun e W => e = .returned (.bool (decide (xs = ys))) ∧ Below w.heap.size w W := by
  have hn := neq51
  by_cases hlen : xs.length = ys.length
  · have hle : ((xs.length : Int) != (ys.length : Int)) = false := by simp; omega
    go_enter Tryz.func18, Tryz.ntmps18
    go_wp2_with fail
    go_loopw [5] (fun i wr => ∃ k : Nat, k ≤ xs.length ∧ i = .int .i64 k ∧ xs.take k = ys.take k ∧ Below w.heap.size w wr) (fun i _ => xs.length - (intOf i).toNat)
    case atStart => exact ⟨0, Nat.zero_le _, rfl, rfl, Below.refl _ _⟩
    case round =>
      obtain ⟨k, hk, rfl, htk, hbr⟩ := hrel
      by_cases hlt : k < xs.length
      · have hky : k < ys.length := by omega
        obtain ⟨b1, o1, c0, c1, c2, rfl, hN1, hR1, hd0, hd1, hd2⟩ := rows3 hx k hlt
        obtain ⟨b2, o2, e0, e1, e2, rfl, hN2, hR2, he0, he1, he2⟩ := rows3 hy k hky
        have g0 := (hbr.cell (p := ⟨b1, o1 + k * 3, none⟩) (World.block_lt_of_cell? w _ hd0)).trans hd0
        have g1 := (hbr.cell (p := ⟨b1, o1 + k * 3 + 1, none⟩) (World.block_lt_of_cell? w _ hd1)).trans hd1
        have g2 := (hbr.cell (p := ⟨b1, o1 + k * 3 + 2, none⟩) (World.block_lt_of_cell? w _ hd2)).trans hd2
        have q0 := (hbr.cell (p := ⟨b2, o2 + k * 3, none⟩) (World.block_lt_of_cell? w _ he0)).trans he0
        have q1 := (hbr.cell (p := ⟨b2, o2 + k * 3 + 1, none⟩) (World.block_lt_of_cell? w _ he1)).trans he1
        have q2 := (hbr.cell (p := ⟨b2, o2 + k * 3 + 2, none⟩) (World.block_lt_of_cell? w _ he2)).trans he2
        clear hd0 hd1 hd2 he0 he1 he2
        simp only [plateR, List.cons.injEq, and_true] at hR1 hR2
        obtain ⟨rfl, rfl, rfl⟩ := hR1
        obtain ⟨rfl, rfl, rfl⟩ := hR2
        have hky' : (k : Int) < (ys.length : Int) := by omega
        have hkx' : (k : Int) < (xs.length : Int) := by omega
        have hk0 : (0 : Int) ≤ (k : Int) := by omega
        have hs1 := List.take_succ_eq_append_getElem hlt
        have hs2 := List.take_succ_eq_append_getElem hky
        have hex : xs[k] ≠ ys[k] → xs ≠ ys := by rintro h rfl; exact h rfl
        have Hs1 := Lib.hid hs1; clear hs1
        have Hs2 := Lib.hid hs2; clear hs2
        have Htk := Lib.hid htk; clear htk
        have Hex := Lib.hid hex; clear hex
        have Hlen := Lib.hid hlen; clear hlen
        generalize xs[k] = x at *
        generalize ys[k] = y at *
        by_cases hxy : x = y
        · have hnn : ∀ w, (binOp BinOp.neq 51 (.agg #[.int .i64 x.number, .int .i64 x.cls, .int .i64 x.day]) (.agg #[.int .i64 y.number, .int .i64 y.cls, .int .i64 y.day])).run Tryz.prog w = .ok (.bool false) w := fun w => (hn _ _ _ _ _ _ w).trans (by rw [show decide ((⟨x.number, x.cls, x.day⟩ : Plate) = ⟨y.number, y.cls, y.day⟩) = true from decide_eq_true hxy]; rfl)
          clear hn
          have Hxy := Lib.hid hxy; clear hxy
          go_wp2_with fail
          go_quiet (fail)
          go_wp2_with fail
          go_roundw
          case rel => exact ⟨k + 1, by omega, by go_num, by rw [Hs1.out, Hs2.out, Htk.out, Hxy.out], ⟨hbr.os, hbr.tape, hbr.output, hbr.size, hbr.block⟩⟩
          case measure => simp [intOf]; omega
        · have hnn : ∀ w, (binOp BinOp.neq 51 (.agg #[.int .i64 x.number, .int .i64 x.cls, .int .i64 x.day]) (.agg #[.int .i64 y.number, .int .i64 y.cls, .int .i64 y.day])).run Tryz.prog w = .ok (.bool true) w := fun w => (hn _ _ _ _ _ _ w).trans (by rw [show decide ((⟨x.number, x.cls, x.day⟩ : Plate) = ⟨y.number, y.cls, y.day⟩) = false from decide_eq_false hxy]; rfl)
          clear hn
          have Hxy := Lib.hid hxy; clear hxy
          go_wp2_with fail
          go_quiet (fail)
          go_wp2_with fail
          go_ret
          exact ⟨by simp [Hex.out Hxy.out], ⟨hbr.os, hbr.tape, hbr.output, hbr.size, hbr.block⟩⟩
      · obtain rfl : k = xs.length := by omega
        have heq : xs = ys := by rw [List.take_length, hlen, List.take_length] at htk; exact htk
        have Heq := Lib.hid heq; clear heq htk
        have Hlen := Lib.hid hlen; clear hlen
        go_wp2_with fail
        go_ret
        exact ⟨by simp [Heq.out], hbr⟩
  · have hle : ((xs.length : Int) != (ys.length : Int)) = true := by simp; omega
    go_enter Tryz.func18, Tryz.ntmps18
    go_wp2_with fail
    go_ret
    exact ⟨by simp; intro h; exact hlen (by rw [h]), Below.refl _ _⟩
end Go.Proofs.YtjmhpfedglindaaGreatDoor
