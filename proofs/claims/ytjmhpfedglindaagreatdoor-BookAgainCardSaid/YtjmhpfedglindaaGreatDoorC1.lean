/- C1: the columns of a try; a line of the pen. -/
import Derived.Test.YtjmhpfedglindaaGreatDoorC0
import Derived.Deep.RegionWith
set_option linter.unusedVariables false
set_option linter.unusedSimpArgs false
namespace Go.Proofs.YtjmhpfedglindaaGreatDoor
open Go.RowKit

theorem columns_any (w : World) : Calls Tryz.prog 94 #[] w fun e w' => e = .returned (.agg #[.int .i64 6, .int .i64 7, .int .i64 7]) ∧ Below w.heap.size w w' := by
  go_enter Tryz.func94, Tryz.ntmps94
  go_wp2
  exact bodyPost_ret (v := .agg #[.int .i64 6, .int .i64 7, .int .i64 7]) (by simp [results, Tryz.results94, go_sem]) rfl ⟨rfl, (Below.refl _ _).alloc (Nat.le_refl _) _⟩

abbrev str (l : List UInt8) : Value := .string ⟨l.toArray⟩
/-- A block of cells, known whole. -/
theorem cell_of_block {w : World} {b : Nat} {c : Array Value} {e : TypeId} (h : w.heap[b]? = some (.cells c e (0, 0))) (j : Nat) : w.cell? ⟨b, j, none⟩ = c[j]? := by simp [World.cell?, h]
theorem free_of_block {w : World} {b : Nat} {c : Array Value} {e : TypeId} (h : w.heap[b]? = some (.cells c e (0, 0))) (j : Nat) : w.frozen? ⟨b, j, none⟩ = false := by
  simp only [World.frozen?, h]; simp
theorem block_set {w : World} {b : Nat} {c : Array Value} {e : TypeId} (h : w.heap[b]? = some (.cells c e (0, 0))) (j : Nat) (v : Value) : (w.setCell ⟨b, j, none⟩ v).heap[b]? = some (.cells (c.setIfInBounds j v) e (0, 0)) := by
  simp [World.setCell, Array.getElem?_modify, h]
theorem block_set_other {w : World} {b b' : Nat} {o : Obj} (h : w.heap[b]? = some o) (hne : b ≠ b') (j : Nat) (v : Value) : (w.setCell ⟨b', j, none⟩ v).heap[b]? = some o :=
  (Below.heap_setCell w ⟨b', j, none⟩ v b hne).trans h
theorem block_below {w W : World} {B b : Nat} {o : Obj} (h : w.heap[b]? = some o) (hb : Below B w W) (hB : b < B) : W.heap[b]? = some o := (hb.block b hB).trans h
theorem block_lt {w : World} {b : Nat} {o : Obj} (h : w.heap[b]? = some o) : b < w.heap.size := (Array.getElem?_eq_some_iff.1 h).1
theorem block_new (w : World) (o : Obj) : (w.alloc o).heap[w.heap.size]? = some o := by show (w.heap.push o)[w.heap.size]? = _; simp
theorem block_old {w : World} {b : Nat} {o : Obj} (h : w.heap[b]? = some o) (o' : Obj) : (w.alloc o').heap[b]? = some o := (Below.heap_alloc w o' b (block_lt h)).trans h

def rowUpto (a b c : List UInt8) (k : Nat) : Array Value := #[if 0 < k then str a else .string ⟨#[]⟩, if 1 < k then str b else .string ⟨#[]⟩, if 2 < k then str c else .string ⟨#[]⟩]
set_option maxRecDepth 100000 in
set_option maxHeartbeats 4000000 in
theorem rowOf_any (x : Try) (c0 c1 c2 : Value) (N : Nat) (w : World) (hR : tryR N w x [c0, c1, c2]) (hok : x.okB = true) (hE : Env N w) (hN : N ≤ w.heap.size) :
    Calls Tryz.prog 57 #[.agg #[c0, c1, c2]] w fun e w' => e = .returned (.agg #[str (wideL x.flow 6 32), str (wideL x.poured 7 32), str (wideL x.shown 7 32)]) ∧ Below w.heap.size w w' := by
  obtain ⟨n, c, d⟩ := x
  simp only [tryR, List.cons.injEq, and_true] at hR
  obtain ⟨rfl, rfl, rfl⟩ := hR
  simp only [Try.okB, inB, Bool.and_eq_true, decide_eq_true_eq] at hok
  obtain ⟨⟨⟨a1, a2⟩, a3, a4⟩, a5, a6⟩ := hok
  have hw := fun W (n : Int) (k : Nat) (h0 : 0 ≤ n) (h1 : n ≤ 9999999) (hk : k ≤ 100) (hb : Below w.heap.size w W) => wide_any n k 32 N W (by omega) (by omega) hk (hE.later (hb.mono hN))
  have Hw := Lib.hid hw; clear hw
  have i0 : ∀ w, (Instr.index 144 (.agg #[.int .i64 n, .int .i64 c, .int .i64 d]) (.int .i64 0)).run Tryz.prog w = .ok (.int .i64 n) w := fun _ => by kernel_rfl
  have i1 : ∀ w, (Instr.index 144 (.agg #[.int .i64 n, .int .i64 c, .int .i64 d]) (.int .i64 1)).run Tryz.prog w = .ok (.int .i64 c) w := fun _ => by kernel_rfl
  have i2 : ∀ w, (Instr.index 144 (.agg #[.int .i64 n, .int .i64 c, .int .i64 d]) (.int .i64 2)).run Tryz.prog w = .ok (.int .i64 d) w := fun _ => by kernel_rfl
  have j0 : ∀ w, (Instr.index 144 (.agg #[.int .i64 6, .int .i64 7, .int .i64 7]) (.int .i64 0)).run Tryz.prog w = .ok (.int .i64 6) w := fun _ => by kernel_rfl
  have j1 : ∀ w, (Instr.index 144 (.agg #[.int .i64 6, .int .i64 7, .int .i64 7]) (.int .i64 1)).run Tryz.prog w = .ok (.int .i64 7) w := fun _ => by kernel_rfl
  have j2 : ∀ w, (Instr.index 144 (.agg #[.int .i64 6, .int .i64 7, .int .i64 7]) (.int .i64 2)).run Tryz.prog w = .ok (.int .i64 7) w := fun _ => by kernel_rfl
  go_enter Tryz.func57, Tryz.ntmps57
  go_wp2_with fail
  go_loopw [12] (fun i wr => ∃ k : Nat, k ≤ 3 ∧ i = .int .i64 k ∧ Below w.heap.size w wr ∧ wr.heap[w.heap.size + 1]? = some (.cells (rowUpto (wideL n 6 32) (wideL c 7 32) (wideL d 7 32) k) 103 (0, 0))) (fun i _ => 3 - (intOf i).toNat)
  case atStart => exact ⟨0, by omega, rfl, ((Below.refl _ _).alloc (Nat.le_refl _) _).alloc (by simp) _, by have := block_new (w.alloc (.cells #[.int .i64 n, .int .i64 c, .int .i64 d] 101)) (.cells #[.string { data := #[] }, .string { data := #[] }, .string { data := #[] }] 103); simpa [rowUpto] using this⟩
  case round =>
    obtain ⟨k, hk, rfl, hbr, hblk⟩ := hrel
    have hwr := hbr.size
    have hk4 : k = 0 ∨ k = 1 ∨ k = 2 ∨ k = 3 := by omega
    rcases hk4 with rfl | rfl | rfl | rfl
    · go_wp2_with (go_at_call 94; refine (columns_any _).mono ?_; rintro e w1 ⟨rfl, hb1⟩)
      have hw2 := Hw.out w1 n 6 (by omega) (by omega) (by omega) (hbr.trans (hb1.mono hbr.size))
      have Hw2 := Lib.hid hw2; clear hw2
      have hblk1 := block_below hblk hb1 (block_lt hblk)
      have Hb := Lib.hid hblk1; clear hblk hblk1
      go_wp2_with (go_at_call 54; refine Hw2.out.mono ?_; rintro e w2 ⟨rfl, hb2⟩; refine Hid.out ?_)
      have hblk2 := block_below Hb.out hb2 (block_lt Hb.out)
      have hc := cell_of_block hblk2 0
      have hf := free_of_block hblk2 0
      simp only [rowUpto] at hc
      have Hb2 := Lib.hid hblk2; clear hblk2
      refine Lib.hid ?_
      go_wp2
      go_roundw
      case rel => exact ⟨0 + 1, by omega, by go_num, ((hbr.trans (hb1.mono hbr.size)).trans (hb2.mono (by have := hb1.size; omega))).setCell (p := ⟨w.heap.size + 1, 0, none⟩) (by show _ ≤ w.heap.size + 1; omega) _, by rw [block_set Hb2.out]; simp [rowUpto]⟩
      case measure => simp [intOf]
    · go_wp2_with (go_at_call 94; refine (columns_any _).mono ?_; rintro e w1 ⟨rfl, hb1⟩)
      have hw2 := Hw.out w1 c 7 (by omega) (by omega) (by omega) (hbr.trans (hb1.mono hbr.size))
      have Hw2 := Lib.hid hw2; clear hw2
      have hblk1 := block_below hblk hb1 (block_lt hblk)
      have Hb := Lib.hid hblk1; clear hblk hblk1
      go_wp2_with (go_at_call 54; refine Hw2.out.mono ?_; rintro e w2 ⟨rfl, hb2⟩; refine Hid.out ?_)
      have hblk2 := block_below Hb.out hb2 (block_lt Hb.out)
      have hc := cell_of_block hblk2 1
      have hf := free_of_block hblk2 1
      simp only [rowUpto] at hc
      have Hb2 := Lib.hid hblk2; clear hblk2
      refine Lib.hid ?_
      go_wp2
      go_roundw
      case rel => exact ⟨1 + 1, by omega, by go_num, ((hbr.trans (hb1.mono hbr.size)).trans (hb2.mono (by have := hb1.size; omega))).setCell (p := ⟨w.heap.size + 1, 1, none⟩) (by show _ ≤ w.heap.size + 1; omega) _, by rw [block_set Hb2.out]; simp [rowUpto]⟩
      case measure => simp [intOf]
    · go_wp2_with (go_at_call 94; refine (columns_any _).mono ?_; rintro e w1 ⟨rfl, hb1⟩)
      have hw2 := Hw.out w1 d 7 (by omega) (by omega) (by omega) (hbr.trans (hb1.mono hbr.size))
      have Hw2 := Lib.hid hw2; clear hw2
      have hblk1 := block_below hblk hb1 (block_lt hblk)
      have Hb := Lib.hid hblk1; clear hblk hblk1
      go_wp2_with (go_at_call 54; refine Hw2.out.mono ?_; rintro e w2 ⟨rfl, hb2⟩; refine Hid.out ?_)
      have hblk2 := block_below Hb.out hb2 (block_lt Hb.out)
      have hc := cell_of_block hblk2 2
      have hf := free_of_block hblk2 2
      simp only [rowUpto] at hc
      have Hb2 := Lib.hid hblk2; clear hblk2
      refine Lib.hid ?_
      go_wp2
      go_roundw
      case rel => exact ⟨2 + 1, by omega, by go_num, ((hbr.trans (hb1.mono hbr.size)).trans (hb2.mono (by have := hb1.size; omega))).setCell (p := ⟨w.heap.size + 1, 2, none⟩) (by show _ ≤ w.heap.size + 1; omega) _, by rw [block_set Hb2.out]; simp [rowUpto]⟩
      case measure => simp [intOf]
    · have c0 := cell_of_block hblk 0
      have c1 := cell_of_block hblk 1
      have c2 := cell_of_block hblk 2
      have f0 := free_of_block hblk 0
      have f1 := free_of_block hblk 1
      have f2 := free_of_block hblk 2
      simp [rowUpto] at c0 c1 c2
      have Hb := Lib.hid hblk; clear hblk
      go_wp2
      refine bodyPost_ret (v := .agg #[str (wideL n 6 32), str (wideL c 7 32), str (wideL d 7 32)]) ?_ rfl ⟨rfl, ((hbr.setCell (by simp) _).setCell (by simp) _).setCell (by simp) _⟩
      simp [results, Tryz.results57, go_sem, c0, c1, c2]

/-- The words that a pen's line is made of: strings in a row. -/
def strR : Rd (List UInt8) := fun _ _ x cs => cs = [str x]
instance : Rd.Stays strR := ⟨fun h _ => h⟩
theorem line_any (B b bk o cap N : Nat) (l : List UInt8) (ws : List (List UInt8)) (w : World) (h : IsPen B b l w) (hBw : B ≤ w.heap.size) (hbk : bk < w.heap.size)
    (hw : ∀ j (h : j < ws.length), w.cell? ⟨bk, o + j, none⟩ = some (str ws[j])) (hcap : ws.length ≤ cap) (hn : ws.length ≤ 100) (hlen : l.length + (joinL ws).length + 1 ≤ 140737488355328) :
    Calls Tryz.prog 55 #[.pointer (some ⟨b, 0, none⟩), .slice (some ⟨bk, o, none⟩) ws.length cap] w fun e w' => e = .returned (.tuple #[]) ∧ IsPen B b (l ++ lineL ws) w' ∧ Below B w w' ∧ Lib.OthersKept 5 (some b) w w' := by
  have hj := fun W (hW : Below w.heap.size w W) => Tryz.strings_Join bk o cap (ws.map fun x => ⟨x.toArray⟩) ⟨#[32]⟩ W (fun j x hx => by
    simp only [List.getElem?_map, Option.map_eq_some_iff] at hx
    obtain ⟨y, hy, rfl⟩ := hx
    obtain ⟨hlt, rfl⟩ := List.getElem?_eq_some_iff.1 hy
    exact (hW.cell (p := ⟨bk, o + j, none⟩) hbk).trans (hw j hlt)) (by have := hW.size; omega) (by simp; omega) (by simpa using hcap) (by simp only [List.map_map]; unfold joinL at hlen; simp [Function.comp_def]; omega)
  simp only [List.map_map, Function.comp_def, List.length_map, List.map_id'] at hj
  have Hj := Lib.hid hj; clear hj
  unfold lineL joinL at *
  generalize hjl : Lib.join ws [32] = jl at *
  have hp := fun W (hI : IsPen B b l W) (hB : B ≤ W.heap.size) => penString B b l ⟨jl.toArray⟩ W hI (by simp [ByteArray.size]; omega) hB
  have Hp := Lib.hid hp; clear hp
  have hp2 := fun W (hI : IsPen B b (l ++ jl) W) (hB : B ≤ W.heap.size) => penByte B b (l ++ jl) 10 10 rfl W hI (by simp; omega) hB
  have Hp2 := Lib.hid hp2; clear hp2 hjl
  have hx := fun W (hW : Below w.heap.size w W) => IsPen.later h hW
  have Hx := Lib.hid hx; clear hx h
  go_enter Tryz.func55, Tryz.ntmps55
  go_wp2_with fail
  go_region_with (first | (go_at_call 58; refine (Hj.out _ (Below.refl _ _).drew).mono ?_; rintro e w1 ⟨rfl, hb1⟩) | (go_at_call 92; refine (Hp.out _ (Hx.out _ ((Below.refl _ _).drew.trans (hb1.mono (Nat.le_refl _)))) (Nat.le_trans hBw hb1.size)).mono ?_; rintro e w2 ⟨rfl, hI2, hb2, hk2⟩))
  go_wp2_with (go_at_call 93; refine (Hp2.out _ hI2 (Nat.le_trans hBw (Nat.le_trans hb1.size hb2.size))).mono ?_; rintro e w3 ⟨rfl, hI3, hb3, hk3⟩)
  go_end0
  exact ⟨rfl, by simpa using hI3, (((Below.refl _ _).drew.trans (hb1.mono hBw)).trans hb2).trans hb3, ((kept_of ((Below.refl _ _).drew.trans (hb1.mono (Nat.le_refl _)))).trans hk2).trans hk3⟩
end Go.Proofs.YtjmhpfedglindaaGreatDoor
