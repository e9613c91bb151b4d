/- Y1: tryOf (printed by gen_try.py). -/
import Derived.Test.YtjmhpfedglindaaGreatDoorY0
set_option linter.unusedVariables false
set_option linter.unusedSimpArgs false
namespace Go.Proofs.YtjmhpfedglindaaGreatDoor
open Go.RowKit

set_option maxRecDepth 100000 in
set_option maxHeartbeats 4000000 in
theorem rowOf_gen (n c d : Int) (N : Nat) (w : World) (a1 : 0 ≤ n) (a2 : n ≤ 1000000000000) (a3 : 0 ≤ c) (a4 : c ≤ 1000000000000) (a5 : 0 ≤ d) (a6 : d ≤ 1000000000000) (hE : Env N w) (hN : N ≤ w.heap.size) :
    Calls Tryz.prog 57 #[.agg #[.int .i64 n, .int .i64 c, .int .i64 d]] w fun e w' => e = .returned (.agg #[str (wideL n 6 32), str (wideL c 7 32), str (wideL d 7 32)]) ∧ Below w.heap.size w w' := by
  have hw := fun W (n : Int) (k : Nat) (h0 : 0 ≤ n) (h1 : n ≤ 1000000000000) (hk : k ≤ 100) (hb : Below w.heap.size w W) => wide_any n k 32 N W (by omega) (by omega) hk (hE.later (hb.mono hN))
  have Hw := Lib.hid hw; clear hw
  have i0 : ∀ w, (Instr.index 144 (.agg #[.int .i64 n, .int .i64 c, .int .i64 d]) (.int .i64 0)).run Tryz.prog w = .ok (.int .i64 n) w := fun _ => by kernel_rfl
  have i1 : ∀ w, (Instr.index 144 (.agg #[.int .i64 n, .int .i64 c, .int .i64 d]) (.int .i64 1)).run Tryz.prog w = .ok (.int .i64 c) w := fun _ => by kernel_rfl
  have i2 : ∀ w, (Instr.index 144 (.agg #[.int .i64 n, .int .i64 c, .int .i64 d]) (.int .i64 2)).run Tryz.prog w = .ok (.int .i64 d) w := fun _ => by kernel_rfl
  have j0 : ∀ w, (Instr.index 144 (.agg #[.int .i64 6, .int .i64 7, .int .i64 7]) (.int .i64 0)).run Tryz.prog w = .ok (.int .i64 6) w := fun _ => by kernel_rfl
  have j1 : ∀ w, (Instr.index 144 (.agg #[.int .i64 6, .int .i64 7, .int .i64 7]) (.int .i64 1)).run Tryz.prog w = .ok (.int .i64 7) w := fun _ => by kernel_rfl
  have j2 : ∀ w, (Instr.index 144 (.agg #[.int .i64 6, .int .i64 7, .int .i64 7]) (.int .i64 2)).run Tryz.prog w = .ok (.int .i64 7) w := fun _ => by kernel_rfl
  go_enter Tryz.func57, Tryz.ntmps57
  go_wp2_with fail
  go_loopw [12] (fun i wr => ∃ k : Nat, k ≤ 3 ∧ i = .int .i64 k ∧ Below w.heap.size w wr ∧ wr.heap[w.heap.size + 1]? = some (.cells (rowUpto (wideL n 6 32) (wideL c 7 32) (wideL d 7 32) k) 103 (0, 0))) (fun i _ => 3 - (intOf i).toNat)
  case atStart => exact ⟨0, by omega, rfl, ((Below.refl _ _).alloc (Nat.le_refl _) _).alloc (by simp) _, by have := block_new (w.alloc (.cells #[.int .i64 n, .int .i64 c, .int .i64 d] 101)) (.cells #[.string { data := #[] }, .string { data := #[] }, .string { data := #[] }] 103); simpa [rowUpto] using this⟩
  case round =>
    obtain ⟨k, hk, rfl, hbr, hblk⟩ := hrel
    have hwr := hbr.size
    have hk4 : k = 0 ∨ k = 1 ∨ k = 2 ∨ k = 3 := by omega
    rcases hk4 with rfl | rfl | rfl | rfl
    · go_wp2_with (go_at_call 94; refine (columns_any _).mono ?_; rintro e w1 ⟨rfl, hb1⟩)
      have hw2 := Hw.out w1 n 6 (by omega) (by omega) (by omega) (hbr.trans (hb1.mono hbr.size))
      have Hw2 := Lib.hid hw2; clear hw2
      have hblk1 := block_below hblk hb1 (block_lt hblk)
      have Hb := Lib.hid hblk1; clear hblk hblk1
      go_wp2_with (go_at_call 54; refine Hw2.out.mono ?_; rintro e w2 ⟨rfl, hb2⟩; refine Hid.out ?_)
      have hblk2 := block_below Hb.out hb2 (block_lt Hb.out)
      have hc := cell_of_block hblk2 0
      have hf := free_of_block hblk2 0
      simp only [rowUpto] at hc
      have Hb2 := Lib.hid hblk2; clear hblk2
      refine Lib.hid ?_
      go_wp2
      go_roundw
      case rel => exact ⟨0 + 1, by omega, by go_num, ((hbr.trans (hb1.mono hbr.size)).trans (hb2.mono (by have := hb1.size; omega))).setCell (p := ⟨w.heap.size + 1, 0, none⟩) (by show _ ≤ w.heap.size + 1; omega) _, by rw [block_set Hb2.out]; simp [rowUpto]⟩
      case measure => simp [intOf]
    · go_wp2_with (go_at_call 94; refine (columns_any _).mono ?_; rintro e w1 ⟨rfl, hb1⟩)
      have hw2 := Hw.out w1 c 7 (by omega) (by omega) (by omega) (hbr.trans (hb1.mono hbr.size))
      have Hw2 := Lib.hid hw2; clear hw2
      have hblk1 := block_below hblk hb1 (block_lt hblk)
      have Hb := Lib.hid hblk1; clear hblk hblk1
      go_wp2_with (go_at_call 54; refine Hw2.out.mono ?_; rintro e w2 ⟨rfl, hb2⟩; refine Hid.out ?_)
      have hblk2 := block_below Hb.out hb2 (block_lt Hb.out)
      have hc := cell_of_block hblk2 1
      have hf := free_of_block hblk2 1
      simp only [rowUpto] at hc
      have Hb2 := Lib.hid hblk2; clear hblk2
      refine Lib.hid ?_
      go_wp2
      go_roundw
      case rel => exact ⟨1 + 1, by omega, by go_num, ((hbr.trans (hb1.mono hbr.size)).trans (hb2.mono (by have := hb1.size; omega))).setCell (p := ⟨w.heap.size + 1, 1, none⟩) (by show _ ≤ w.heap.size + 1; omega) _, by rw [block_set Hb2.out]; simp [rowUpto]⟩
      case measure => simp [intOf]
    · go_wp2_with (go_at_call 94; refine (columns_any _).mono ?_; rintro e w1 ⟨rfl, hb1⟩)
      have hw2 := Hw.out w1 d 7 (by omega) (by omega) (by omega) (hbr.trans (hb1.mono hbr.size))
      have Hw2 := Lib.hid hw2; clear hw2
      have hblk1 := block_below hblk hb1 (block_lt hblk)
      have Hb := Lib.hid hblk1; clear hblk hblk1
      go_wp2_with (go_at_call 54; refine Hw2.out.mono ?_; rintro e w2 ⟨rfl, hb2⟩; refine Hid.out ?_)
      have hblk2 := block_below Hb.out hb2 (block_lt Hb.out)
      have hc := cell_of_block hblk2 2
      have hf := free_of_block hblk2 2
      simp only [rowUpto] at hc
      have Hb2 := Lib.hid hblk2; clear hblk2
      refine Lib.hid ?_
      go_wp2
      go_roundw
      case rel => exact ⟨2 + 1, by omega, by go_num, ((hbr.trans (hb1.mono hbr.size)).trans (hb2.mono (by have := hb1.size; omega))).setCell (p := ⟨w.heap.size + 1, 2, none⟩) (by show _ ≤ w.heap.size + 1; omega) _, by rw [block_set Hb2.out]; simp [rowUpto]⟩
      case measure => simp [intOf]
    · have c0 := cell_of_block hblk 0
      have c1 := cell_of_block hblk 1
      have c2 := cell_of_block hblk 2
      have f0 := free_of_block hblk 0
      have f1 := free_of_block hblk 1
      have f2 := free_of_block hblk 2
      simp [rowUpto] at c0 c1 c2
      have Hb := Lib.hid hblk; clear hblk
      go_wp2
      refine bodyPost_ret (v := .agg #[str (wideL n 6 32), str (wideL c 7 32), str (wideL d 7 32)]) ?_ rfl ⟨rfl, ((hbr.setCell (by simp) _).setCell (by simp) _).setCell (by simp) _⟩
      simp [results, Tryz.results57, go_sem, c0, c1, c2]



theorem slice_str (l : List UInt8) (a b : Nat) (hab : a ≤ b) (hb : b ≤ l.length) (w : World) : (Instr.slice 9 (str l) (some (.int .i64 (a : Int))) (some (.int .i64 (b : Int))) none).run Tryz.prog w = .ok (str ((l.drop a).take (b - a))) w := by
  have h1 : (a : Int) ≤ (b : Int) := by omega
  have h2 : (b : Int) ≤ (l.length : Int) := by omega
  simp [go_sem, h1, h2]
  rw [extract_str]

theorem eq103 (a b c d e f : List UInt8) (w : World) : (Op.equalIn 10000 103 (.agg #[str a, str b, str c]) (.agg #[str d, str e, str f])).run Tryz.prog w = .ok (decide ([a, b, c] = [d, e, f])) w := by
  have u3 := Tryz.underlying9
  have a3 := Tryz.isAgg9
  have z3 := Tryz.sizeOf9
  rw [show (10000 : Nat) = 9999 + 1 from rfl, Op.equalIn]
  simp only [Sem.run_bind, run_underlying Tryz.underlying103, Result.andThen_ok]
  simp only [Std.Legacy.Range.forIn_eq_forIn_range', Std.Legacy.Range.size, Nat.sub_zero, Nat.add_sub_cancel, Nat.div_one, List.range'_succ, List.range'_zero, List.forIn_cons, List.forIn_nil]
  have hs : ∀ (d' : Nat) (x y : List UInt8) (w : World), (Op.equalIn (d' + 1) 9 (str x) (str y)).run Tryz.prog w = .ok (decide (x = y)) w := fun d' x y w => by
    refine (run_equalIn_string w d' 9 ⟨x.toArray⟩ ⟨y.toArray⟩ Tryz.underlying9).trans ?_
    have h1 : ((⟨x.toArray⟩ : ByteArray).toList == (⟨y.toArray⟩ : ByteArray).toList) = decide (x = y) := by
      by_cases h : x = y
      · simp [h]
      · simp [h]
    rw [h1]
  go_simp
  by_cases h1 : a = d <;> by_cases h2 : b = e <;> by_cases h3 : c = f <;> simp [h1, h2, h3]

def nUpto (a b c : Nat) (k : Nat) : Array Value := #[.int .i64 (if 0 < k then a else 0 : Nat), .int .i64 (if 1 < k then b else 0 : Nat), .int .i64 (if 2 < k then c else 0 : Nat)]
/-- The columns of a try's line. -/
def colL (l : List UInt8) : Nat → List UInt8
  | 0 => l.take 6
  | 1 => (l.drop 7).take 7
  | _ => (l.drop 15).take 7
theorem colL_len (l : List UInt8) (k : Nat) : (colL l k).length ≤ 7 := by
  match k with
  | 0 => simp [colL]; omega
  | 1 => simp [colL]; omega
  | _ + 2 => simp [colL]; omega
def colP (l : List UInt8) (k : Nat) : Option Nat := figureP (Lib.trimLeftB (colL l k) 32)
theorem tryP_none {l : List UInt8} (k : Nat) (hk : k < 3) (h : colP l k = none) : tryP l = none := by
  unfold tryP
  match k, hk with
  | 0, _ => simp only [colP, colL] at h; rw [h]; split <;> rfl
  | 1, _ => simp only [colP, colL] at h; rw [h]; split <;> (try rfl); split <;> rfl
  | 2, _ => simp only [colP, colL] at h; rw [h]; split <;> (try rfl); split <;> (try rfl); split <;> rfl
theorem tryP_some {l : List UInt8} {a b c : Nat} (h : l.length = 22 ∧ l[6]? = some 32 ∧ l[14]? = some 32) (h0 : colP l 0 = some a) (h1 : colP l 1 = some b) (h2 : colP l 2 = some c) :
    tryP l = if rowL ⟨a, b, c⟩ = [colL l 0, colL l 1, colL l 2] then some ⟨a, b, c⟩ else none := by
  simp only [colP, colL] at h0 h1 h2
  unfold tryP
  rw [if_pos h, h0, h1, h2]
  rfl

set_option maxRecDepth 100000 in
set_option maxHeartbeats 4000000 in
theorem try_walk (l : List UInt8) (hl : l.length ≤ 100000) (N : Nat) (w : World) (hE : Env N w) (hN : N ≤ w.heap.size) :
    Calls Tryz.prog 76 #[str l] w fun e w' => (∀ t, tryP l = some t → e = .returned (.agg #[.int .i64 t.flow, .int .i64 t.poured, .int .i64 t.shown])) ∧ (tryP l = none → e = .panicked misfit) ∧ Below w.heap.size w w' := by
  by_cases h22 : l.length = 22
  · have g6 : l[6]? = some (l[6]'(by omega)) := List.getElem?_eq_getElem (by omega)
    have g14 : l[14]? = some (l[14]'(by omega)) := List.getElem?_eq_getElem (by omega)
    obtain ⟨c6, hc6⟩ : ∃ c, c = l[6]'(by omega) := ⟨_, rfl⟩
    obtain ⟨c14, hc14⟩ : ∃ c, c = l[14]'(by omega) := ⟨_, rfl⟩
    have a6 : ∀ p, (⟨l.toArray⟩ : ByteArray)[6]'p = c6 := fun _ => hc6.symm
    have a14 : ∀ p, (⟨l.toArray⟩ : ByteArray)[14]'p = c14 := fun _ => hc14.symm
    rw [← hc6] at g6
    rw [← hc14] at g14
    clear hc6 hc14
    have b6 : 6 < l.length := by omega
    have b14 : 14 < l.length := by omega
    have s0 : ∀ W, (Instr.slice 9 (str l) (some (.int .i64 0)) (some (.int .i64 6)) none).run Tryz.prog W = .ok (str (colL l 0)) W := fun W => slice_str l 0 6 (by omega) (by omega) W
    have s1 : ∀ W, (Instr.slice 9 (str l) (some (.int .i64 7)) (some (.int .i64 14)) none).run Tryz.prog W = .ok (str (colL l 1)) W := fun W => slice_str l 7 14 (by omega) (by omega) W
    have s2 : ∀ W, (Instr.slice 9 (str l) (some (.int .i64 15)) (some (.int .i64 22)) none).run Tryz.prog W = .ok (str (colL l 2)) W := fun W => slice_str l 15 22 (by omega) (by omega) W
    have j0 : ∀ w, (Instr.index 144 (.agg #[.int .i64 6, .int .i64 7, .int .i64 7]) (.int .i64 0)).run Tryz.prog w = .ok (.int .i64 6) w := fun _ => by kernel_rfl
    have j1 : ∀ w, (Instr.index 144 (.agg #[.int .i64 6, .int .i64 7, .int .i64 7]) (.int .i64 1)).run Tryz.prog w = .ok (.int .i64 7) w := fun _ => by kernel_rfl
    have j2 : ∀ w, (Instr.index 144 (.agg #[.int .i64 6, .int .i64 7, .int .i64 7]) (.int .i64 2)).run Tryz.prog w = .ok (.int .i64 7) w := fun _ => by kernel_rfl
    have h22' : ((l.length : Int) == 22) = true := by simp; omega
    by_cases h6 : c6 = 32
    · subst h6
      by_cases h14 : c14 = 32
      · subst h14
        have hP := fun a b c => tryP_some (l := l) (a := a) (b := b) (c := c) ⟨h22, g6, g14⟩
        have HP := Lib.hid hP; clear hP g6 g14
        have H22 := Lib.hid h22; clear h22
        have h108 := fun k W => trim_walk (colL l k) 32 (by decide) W
        have H108 := Lib.hid h108; clear h108
        go_enter Tryz.func76, Tryz.ntmps76
        go_wp2_with fail
        refine (need_is rfl _).mono ?_
        rintro e w1 ⟨rfl, rfl⟩
        go_wp2_with (go_at_call 94; refine (columns_any _).mono ?_; rintro e w1 ⟨rfl, hb1⟩)
        have hb1w : Below w.heap.size w w1 := ((((Below.refl w.heap.size w).alloc (Nat.le_refl _) _).alloc (by simp) _).alloc (by simp; omega) _).trans (hb1.mono (by simp; omega))
        have kR := block_below (block_old (block_new (w.alloc (.cells #[.int .i64 0, .int .i64 0, .int .i64 0] 101)) (.cells #[.string { data := #[] }, .string { data := #[] }, .string { data := #[] }] 103)) (.cells #[.int .i64 0, .int .i64 0, .int .i64 0] 144)) hb1 (by simp)
        have kN := block_below (block_new ((w.alloc (.cells #[.int .i64 0, .int .i64 0, .int .i64 0] 101)).alloc (.cells #[.string { data := #[] }, .string { data := #[] }, .string { data := #[] }] 103)) (.cells #[.int .i64 0, .int .i64 0, .int .i64 0] 144)) hb1 (by simp)
        have kT := block_below (block_old (block_old (block_new w (.cells #[.int .i64 0, .int .i64 0, .int .i64 0] 101)) (.cells #[.string { data := #[] }, .string { data := #[] }, .string { data := #[] }] 103)) (.cells #[.int .i64 0, .int .i64 0, .int .i64 0] 144)) hb1 (by simp; omega)
        go_loopw [24, 5] (fun i a wr => ∃ k : Nat, k ≤ 3 ∧ i = .int .i64 k ∧ a = .int .i64 (if k = 0 then 0 else if k = 1 then 7 else if k = 2 then 15 else 23 : Nat) ∧ Below w.heap.size w wr ∧ (∀ j, j < k → ∃ v, colP l j = some v) ∧
          wr.heap[w.heap.size]? = some (.cells #[.int .i64 0, .int .i64 0, .int .i64 0] 101 (0, 0)) ∧ wr.heap[w.heap.size + 1]? = some (.cells (rowUpto (colL l 0) (colL l 1) (colL l 2) k) 103 (0, 0)) ∧ wr.heap[w.heap.size + 1 + 1]? = some (.cells (nUpto ((colP l 0).getD 0) ((colP l 1).getD 0) ((colP l 2).getD 0) k) 144 (0, 0))) (fun i _ _ => 3 - (intOf i).toNat)
        case atStart => exact ⟨0, by omega, rfl, rfl, hb1w, fun j hj => absurd hj (Nat.not_lt_zero j), kT, by simpa [rowUpto] using kR, by simpa [nUpto] using kN⟩
        case round =>
          obtain ⟨k, hk, rfl, rfl, hbr, hv, kT, kR, kN⟩ := hrel
          have Hv := Lib.hid hv; clear hv
          have hk4 : k = 0 ∨ k = 1 ∨ k = 2 ∨ k = 3 := by omega
          rcases hk4 with rfl | rfl | rfl | rfl
          · have kR1 := block_set kR 0 (str (colL l 0))
            have kN1 := (Below.heap_setCell wr ⟨w.heap.size + 1, 0, none⟩ (str (colL l 0)) (w.heap.size + 1 + 1) (by simp)).trans kN
            have kT1 := (Below.heap_setCell wr ⟨w.heap.size + 1, 0, none⟩ (str (colL l 0)) w.heap.size (by simp)).trans kT
            have hbs := hbr.setCell (p := ⟨w.heap.size + 1, 0, none⟩) (by show _ ≤ w.heap.size + 1; omega) (str (colL l 0))
            have hc := cell_of_block kR 0
            have hf := free_of_block kR 0
            simp [rowUpto] at hc
            have HkR := Lib.hid kR1; have HkN := Lib.hid kN1; have HkT := Lib.hid kT1; clear kR kN kT kR1 kN1 kT1
            cases hcp : colP l 0 with
            | none =>
              have hn := tryP_none 0 (by omega) hcp
              have Hn := Lib.hid hn; clear hn
              have h104 := fun W => figure_bad hcp (by have := trim_len (colL l 0) 32; have := colL_len l 0; omega) W
              have H104 := Lib.hid h104; clear h104 hcp
              go_wp2_with fail
              refine (H108.out 0 _).mono ?_
              rintro e w2 ⟨rfl, rfl⟩
              go_wp2_with fail
              refine (H104.out _).mono ?_
              rintro e w3 ⟨rfl, hb3⟩
              go_wp2_with fail
              exact ⟨rfl, ⟨fun t ht => (by rw [Hn.out] at ht; cases ht), fun _ => rfl, hbs.trans (hb3.mono hbs.size)⟩⟩
            | some v =>
              have h104 := fun W => figure_good hcp (by have := trim_len (colL l 0) 32; have := colL_len l 0; omega) W
              have H104 := Lib.hid h104; clear h104
              have Hcp := Lib.hid hcp; clear hcp
              go_wp2_with fail
              refine (H108.out 0 _).mono ?_
              rintro e w2 ⟨rfl, rfl⟩
              go_wp2_with fail
              refine (H104.out _).mono ?_
              rintro e w3 ⟨rfl, hb3⟩
              have kR3 := block_below HkR.out hb3 (block_lt HkR.out)
              have kN3 := block_below HkN.out hb3 (block_lt HkN.out)
              have kT3 := block_below HkT.out hb3 (block_lt HkT.out)
              have hbt := hbs.trans (hb3.mono hbs.size)
              have kR4 := (Below.heap_setCell w3 ⟨w.heap.size + 1 + 1, 0, none⟩ (.int .i64 v) (w.heap.size + 1) (by simp)).trans kR3
              have kT4 := (Below.heap_setCell w3 ⟨w.heap.size + 1 + 1, 0, none⟩ (.int .i64 v) w.heap.size (by simp; omega)).trans kT3
              have kN4 := block_set kN3 0 (.int .i64 v)
              have hcn := cell_of_block kN3 0
              have hfn := free_of_block kN3 0
              simp [nUpto] at hcn
              have HkR3 := Lib.hid kR4; have HkN3 := Lib.hid kN4; have HkT3 := Lib.hid kT4; clear kR3 kN3 kT3 kR4 kN4 kT4 HkR HkN HkT hc hf
              go_wp2_with fail
              go_roundw
              case rel => exact ⟨0 + 1, by omega, by go_num, by go_num, hbt.setCell (p := ⟨w.heap.size + 1 + 1, 0, none⟩) (by show _ ≤ w.heap.size + 1 + 1; omega) _, fun j hj => (Nat.lt_succ_iff_lt_or_eq.1 hj).elim (Hv.out j) (fun h => h ▸ ⟨v, Hcp.out⟩), HkT3.out, by rw [HkR3.out]; simp [rowUpto], by rw [HkN3.out]; simp [nUpto, Hcp.out]⟩
              case measure => simp [intOf]
          · have kR1 := block_set kR 1 (str (colL l 1))
            have kN1 := (Below.heap_setCell wr ⟨w.heap.size + 1, 1, none⟩ (str (colL l 1)) (w.heap.size + 1 + 1) (by simp)).trans kN
            have kT1 := (Below.heap_setCell wr ⟨w.heap.size + 1, 1, none⟩ (str (colL l 1)) w.heap.size (by simp)).trans kT
            have hbs := hbr.setCell (p := ⟨w.heap.size + 1, 1, none⟩) (by show _ ≤ w.heap.size + 1; omega) (str (colL l 1))
            have hc := cell_of_block kR 1
            have hf := free_of_block kR 1
            simp [rowUpto] at hc
            have HkR := Lib.hid kR1; have HkN := Lib.hid kN1; have HkT := Lib.hid kT1; clear kR kN kT kR1 kN1 kT1
            cases hcp : colP l 1 with
            | none =>
              have hn := tryP_none 1 (by omega) hcp
              have Hn := Lib.hid hn; clear hn
              have h104 := fun W => figure_bad hcp (by have := trim_len (colL l 1) 32; have := colL_len l 1; omega) W
              have H104 := Lib.hid h104; clear h104 hcp
              go_wp2_with fail
              refine (H108.out 1 _).mono ?_
              rintro e w2 ⟨rfl, rfl⟩
              go_wp2_with fail
              refine (H104.out _).mono ?_
              rintro e w3 ⟨rfl, hb3⟩
              go_wp2_with fail
              exact ⟨rfl, ⟨fun t ht => (by rw [Hn.out] at ht; cases ht), fun _ => rfl, hbs.trans (hb3.mono hbs.size)⟩⟩
            | some v =>
              have h104 := fun W => figure_good hcp (by have := trim_len (colL l 1) 32; have := colL_len l 1; omega) W
              have H104 := Lib.hid h104; clear h104
              have Hcp := Lib.hid hcp; clear hcp
              go_wp2_with fail
              refine (H108.out 1 _).mono ?_
              rintro e w2 ⟨rfl, rfl⟩
              go_wp2_with fail
              refine (H104.out _).mono ?_
              rintro e w3 ⟨rfl, hb3⟩
              have kR3 := block_below HkR.out hb3 (block_lt HkR.out)
              have kN3 := block_below HkN.out hb3 (block_lt HkN.out)
              have kT3 := block_below HkT.out hb3 (block_lt HkT.out)
              have hbt := hbs.trans (hb3.mono hbs.size)
              have kR4 := (Below.heap_setCell w3 ⟨w.heap.size + 1 + 1, 1, none⟩ (.int .i64 v) (w.heap.size + 1) (by simp)).trans kR3
              have kT4 := (Below.heap_setCell w3 ⟨w.heap.size + 1 + 1, 1, none⟩ (.int .i64 v) w.heap.size (by simp; omega)).trans kT3
              have kN4 := block_set kN3 1 (.int .i64 v)
              have hcn := cell_of_block kN3 1
              have hfn := free_of_block kN3 1
              simp [nUpto] at hcn
              have HkR3 := Lib.hid kR4; have HkN3 := Lib.hid kN4; have HkT3 := Lib.hid kT4; clear kR3 kN3 kT3 kR4 kN4 kT4 HkR HkN HkT hc hf
              go_wp2_with fail
              go_roundw
              case rel => exact ⟨1 + 1, by omega, by go_num, by go_num, hbt.setCell (p := ⟨w.heap.size + 1 + 1, 1, none⟩) (by show _ ≤ w.heap.size + 1 + 1; omega) _, fun j hj => (Nat.lt_succ_iff_lt_or_eq.1 hj).elim (Hv.out j) (fun h => h ▸ ⟨v, Hcp.out⟩), HkT3.out, by rw [HkR3.out]; simp [rowUpto], by rw [HkN3.out]; simp [nUpto, Hcp.out]⟩
              case measure => simp [intOf]
          · have kR1 := block_set kR 2 (str (colL l 2))
            have kN1 := (Below.heap_setCell wr ⟨w.heap.size + 1, 2, none⟩ (str (colL l 2)) (w.heap.size + 1 + 1) (by simp)).trans kN
            have kT1 := (Below.heap_setCell wr ⟨w.heap.size + 1, 2, none⟩ (str (colL l 2)) w.heap.size (by simp)).trans kT
            have hbs := hbr.setCell (p := ⟨w.heap.size + 1, 2, none⟩) (by show _ ≤ w.heap.size + 1; omega) (str (colL l 2))
            have hc := cell_of_block kR 2
            have hf := free_of_block kR 2
            simp [rowUpto] at hc
            have HkR := Lib.hid kR1; have HkN := Lib.hid kN1; have HkT := Lib.hid kT1; clear kR kN kT kR1 kN1 kT1
            cases hcp : colP l 2 with
            | none =>
              have hn := tryP_none 2 (by omega) hcp
              have Hn := Lib.hid hn; clear hn
              have h104 := fun W => figure_bad hcp (by have := trim_len (colL l 2) 32; have := colL_len l 2; omega) W
              have H104 := Lib.hid h104; clear h104 hcp
              go_wp2_with fail
              refine (H108.out 2 _).mono ?_
              rintro e w2 ⟨rfl, rfl⟩
              go_wp2_with fail
              refine (H104.out _).mono ?_
              rintro e w3 ⟨rfl, hb3⟩
              go_wp2_with fail
              exact ⟨rfl, ⟨fun t ht => (by rw [Hn.out] at ht; cases ht), fun _ => rfl, hbs.trans (hb3.mono hbs.size)⟩⟩
            | some v =>
              have h104 := fun W => figure_good hcp (by have := trim_len (colL l 2) 32; have := colL_len l 2; omega) W
              have H104 := Lib.hid h104; clear h104
              have Hcp := Lib.hid hcp; clear hcp
              go_wp2_with fail
              refine (H108.out 2 _).mono ?_
              rintro e w2 ⟨rfl, rfl⟩
              go_wp2_with fail
              refine (H104.out _).mono ?_
              rintro e w3 ⟨rfl, hb3⟩
              have kR3 := block_below HkR.out hb3 (block_lt HkR.out)
              have kN3 := block_below HkN.out hb3 (block_lt HkN.out)
              have kT3 := block_below HkT.out hb3 (block_lt HkT.out)
              have hbt := hbs.trans (hb3.mono hbs.size)
              have kR4 := (Below.heap_setCell w3 ⟨w.heap.size + 1 + 1, 2, none⟩ (.int .i64 v) (w.heap.size + 1) (by simp)).trans kR3
              have kT4 := (Below.heap_setCell w3 ⟨w.heap.size + 1 + 1, 2, none⟩ (.int .i64 v) w.heap.size (by simp; omega)).trans kT3
              have kN4 := block_set kN3 2 (.int .i64 v)
              have hcn := cell_of_block kN3 2
              have hfn := free_of_block kN3 2
              simp [nUpto] at hcn
              have HkR3 := Lib.hid kR4; have HkN3 := Lib.hid kN4; have HkT3 := Lib.hid kT4; clear kR3 kN3 kT3 kR4 kN4 kT4 HkR HkN HkT hc hf
              go_wp2_with fail
              go_roundw
              case rel => exact ⟨2 + 1, by omega, by go_num, by go_num, hbt.setCell (p := ⟨w.heap.size + 1 + 1, 2, none⟩) (by show _ ≤ w.heap.size + 1 + 1; omega) _, fun j hj => (Nat.lt_succ_iff_lt_or_eq.1 hj).elim (Hv.out j) (fun h => h ▸ ⟨v, Hcp.out⟩), HkT3.out, by rw [HkR3.out]; simp [rowUpto], by rw [HkN3.out]; simp [nUpto, Hcp.out]⟩
              case measure => simp [intOf]
          · obtain ⟨a, ha⟩ := Hv.out 0 (by omega)
            obtain ⟨b, hb⟩ := Hv.out 1 (by omega)
            obtain ⟨c, hc⟩ := Hv.out 2 (by omega)
            have hmp := HP.out a b c ha hb hc
            have q0 := (figure_some ha).2
            have q1 := (figure_some hb).2
            have q2 := (figure_some hc).2
            rw [ha, hb, hc] at kN
            clear ha hb hc
            have Hmp := Lib.hid hmp; clear hmp
            have h57 := fun W (hW : Below w.heap.size w W) => rowOf_gen a b c N W (by omega) (by omega) (by omega) (by omega) (by omega) (by omega) (hE.later (hW.mono hN)) (by have := hW.size; omega)
            have H57 := Lib.hid h57; clear h57 q0 q1 q2
            have n0 := cell_of_block kN 0
            have n1 := cell_of_block kN 1
            have n2 := cell_of_block kN 2
            simp [nUpto] at n0 n1 n2
            have HkR := Lib.hid kR; have HkT := Lib.hid kT; clear kR kN kT
            generalize colL l 0 = A at *
            generalize colL l 1 = B at *
            generalize colL l 2 = C at *
            go_wp2_with fail
            have kT' := block_old HkT.out (.cells #[.int .i64 a, .int .i64 b, .int .i64 c] 101)
            have kR' := block_old HkR.out (.cells #[.int .i64 a, .int .i64 b, .int .i64 c] 101)
            have kX' := block_new wr (.cells #[.int .i64 a, .int .i64 b, .int .i64 c] 101)
            have hq := eq103
            have hbS := hbr.alloc hbr.size (.cells #[.int .i64 a, .int .i64 b, .int .i64 c] 101)
            have hltR := block_lt HkR.out
            clear HkT HkR n0 n1 n2 hbr
            generalize hX : wr.heap.size = X at *
            generalize wr.alloc (.cells #[.int .i64 a, .int .i64 b, .int .i64 c] 101) = wS at *
            have r0 := cell_of_block kR' 0
            have r1 := cell_of_block kR' 1
            have r2 := cell_of_block kR' 2
            simp [rowUpto] at r0 r1 r2
            have x0 := cell_of_block kX' 0
            have x1 := cell_of_block kX' 1
            have x2 := cell_of_block kX' 2
            simp at x0 x1 x2
            have hS0 : wS.cell? ⟨X, 0, none⟩ = some (.int .i64 a) ∧ wS.cell? ⟨X, 1, none⟩ = some (.int .i64 b) ∧ wS.cell? ⟨X, 2, none⟩ = some (.int .i64 c) ∧ wS.cell? ⟨w.heap.size + 1, 0, none⟩ = some (str A) ∧ wS.cell? ⟨w.heap.size + 1, 1, none⟩ = some (str B) ∧ wS.cell? ⟨w.heap.size + 1, 2, none⟩ = some (str C) := ⟨x0, x1, x2, r0, r1, r2⟩
            have HS0 := Lib.hid hS0; clear hS0 x0 x1 x2 r0 r1 r2
            have HkT := Lib.hid kT'; have HkX := Lib.hid kX'; clear kT' kR' kX' hX
            refine wp_region_X (fun w' => w'.cell? ⟨X, 0, none⟩ = some (.int .i64 a) ∧ w'.cell? ⟨X, 1, none⟩ = some (.int .i64 b) ∧ w'.cell? ⟨X, 2, none⟩ = some (.int .i64 c) ∧ w'.cell? ⟨w.heap.size + 1, 0, none⟩ = some (str A) ∧ w'.cell? ⟨w.heap.size + 1, 1, none⟩ = some (str B) ∧ w'.cell? ⟨w.heap.size + 1, 2, none⟩ = some (str C)) (fun _ => false) (by kernel_rfl) ?_
            refine wpAnyX_take (i := 0) (v := ?_) rfl (by kernel_rfl) (by kernel_rfl) (by kernel_rfl) (by kernel_rfl) (fun _ _ _ h => h) (Or.inl ⟨by rfl, ?_⟩) HS0.out ?_
            rotate_left 1
            · rintro w' ⟨s0, s1, s2, s3, s4, s5⟩; go_simp
              all_goals with_reducible rfl
            refine wpAnyX_take (i := 2) (v := ?_) rfl (by kernel_rfl) (by kernel_rfl) (by kernel_rfl) (by kernel_rfl) (fun _ _ _ h => h) (Or.inl ⟨by rfl, ?_⟩) HS0.out ?_
            rotate_left 1
            · rintro w' ⟨s0, s1, s2, s3, s4, s5⟩; go_simp
              all_goals with_reducible rfl
            refine wpAnyX_one (i := 1) (by kernel_rfl) rfl (fun K hK => ?_)
            go_simp
            refine (H57.out _ (by first | exact hbS | exact hbS.drew)).mono ?_
            rintro e w4 ⟨rfl, hb4⟩
            have hlX := block_lt HkX.out
            have hS4 : w4.cell? ⟨X, 0, none⟩ = some (.int .i64 a) ∧ w4.cell? ⟨X, 1, none⟩ = some (.int .i64 b) ∧ w4.cell? ⟨X, 2, none⟩ = some (.int .i64 c) ∧ w4.cell? ⟨w.heap.size + 1, 0, none⟩ = some (str A) ∧ w4.cell? ⟨w.heap.size + 1, 1, none⟩ = some (str B) ∧ w4.cell? ⟨w.heap.size + 1, 2, none⟩ = some (str C) := by
              obtain ⟨x0, x1, x2, r0, r1, r2⟩ := HS0.out
              have hr : w.heap.size + 1 < wS.drew.heap.size := by show w.heap.size + 1 < wS.heap.size; omega
              exact ⟨(hb4.cell (p := ⟨X, 0, none⟩) hlX).trans x0, (hb4.cell (p := ⟨X, 1, none⟩) hlX).trans x1, (hb4.cell (p := ⟨X, 2, none⟩) hlX).trans x2,
                (hb4.cell (p := ⟨w.heap.size + 1, 0, none⟩) hr).trans r0, (hb4.cell (p := ⟨w.heap.size + 1, 1, none⟩) hr).trans r1, (hb4.cell (p := ⟨w.heap.size + 1, 2, none⟩) hr).trans r2⟩
            have HS4 := Lib.hid hS4; clear hS4
            refine hK _ _ (fun _ => HS4.out) ?_
            clear hK K
            refine wpAnyX_take (i := 3) (v := ?_) rfl (by kernel_rfl) (by kernel_rfl) (by kernel_rfl) (by kernel_rfl) (fun _ _ _ h => h) (Or.inl ⟨by rfl, ?_⟩) HS4.out ?_
            rotate_left 1
            · rintro w' ⟨s0, s1, s2, s3, s4, s5⟩; go_simp
              all_goals with_reducible rfl
            by_cases hab : rowL ⟨a, b, c⟩ = [A, B, C]
            · have hm : tryP l = some ⟨a, b, c⟩ := by rw [Hmp.out, if_pos hab]
              have Hm := Lib.hid hm; clear hm
              have Hw := Lib.hid hab; clear hab
              refine wpAnyX_one (i := 4) (by kernel_rfl) rfl (fun K hK => ?_)
              go_simp
              refine (need_is (by have := Hw.out; simp only [rowL] at this; simpa using this) _).mono ?_
              rintro e w5 ⟨rfl, rfl⟩
              refine hK _ _ (fun _ => HS4.out) ?_
              clear hK K
              refine wpAnyX_done (by kernel_rfl) ?_
              have kT5 := (hb4.block w.heap.size (by exact block_lt HkT.out)).trans HkT.out
              have kX5 := (hb4.block X (by exact hlX)).trans HkX.out
              have t0 := cell_of_block kT5 0
              have t1 := cell_of_block kT5 1
              have t2 := cell_of_block kT5 2
              have f0 := free_of_block kT5 0
              have f1 := free_of_block kT5 1
              have f2 := free_of_block kT5 2
              have x0 := cell_of_block kX5 0
              have x1 := cell_of_block kX5 1
              have x2 := cell_of_block kX5 2
              simp at t0 t1 t2 x0 x1 x2
              have hb5 := hbS.drew.trans (hb4.mono hbS.drew.size)
              clear kT5 kX5
              go_wp2_with fail
              refine bodyPost_ret (v := .agg #[.int .i64 a, .int .i64 b, .int .i64 c]) (by simp [results, Tryz.results76, go_sem, t0, t1, t2]) rfl ⟨fun t ht => ?_, fun h => (by rw [Hm.out] at h; cases h), ?_⟩
              · rw [Hm.out] at ht
                injection ht with ht
                subst ht
                rfl
              · exact ((hb5.setCell (p := ⟨w.heap.size, 0, none⟩) (Nat.le_refl _) _).setCell (p := ⟨w.heap.size, 1, none⟩) (Nat.le_refl _) _).setCell (p := ⟨w.heap.size, 2, none⟩) (Nat.le_refl _) _
            · have hm : tryP l = none := by rw [Hmp.out, if_neg hab]
              have Hm := Lib.hid hm; clear hm
              have Hw := Lib.hid hab; clear hab
              refine wpAnyX_one (i := 4) (by kernel_rfl) rfl (fun K hK => ?_)
              go_simp
              refine (need_not (by have := Hw.out; simp only [rowL] at this; simpa using this) _).mono ?_
              rintro e w5 ⟨rfl, rfl⟩
              exact ⟨rfl, ⟨fun t ht => (by rw [Hm.out] at ht; cases ht), fun _ => rfl, hbS.drew.trans (hb4.mono hbS.drew.size)⟩⟩
      · have hn : tryP l = none := by
          unfold tryP
          rw [if_neg (by rw [g6, g14]; intro hh; exact h14 (by simpa using hh.2.2))]
        have Hn := Lib.hid hn; clear hn g6 g14
        have hx : ((c14.toNat : Int) == 32) = false := by
          simp
          intro hh
          exact h14 (UInt8.toNat.inj (by have : (c14.toNat : Int) = 32 := hh; show c14.toNat = 32; omega))
        clear h14 s0 s1 s2 j0 j1 j2
        go_enter Tryz.func76, Tryz.ntmps76
        go_wp2_with fail
        refine (need_not rfl _).mono ?_
        rintro e w1 ⟨rfl, rfl⟩
        go_wp2_with fail
        exact ⟨rfl, ⟨fun t ht => (by rw [Hn.out] at ht; cases ht), fun _ => rfl, (((Below.refl w.heap.size w).alloc (Nat.le_refl _) _).alloc (by simp) _).alloc (by simp; omega) _⟩⟩
    · have hn : tryP l = none := by
        unfold tryP
        rw [if_neg (by rw [g6]; intro hh; exact h6 (by simpa using hh.2.1))]
      have Hn := Lib.hid hn; clear hn g6 g14
      have hx : ((c6.toNat : Int) == 32) = false := by
        simp
        intro hh
        exact h6 (UInt8.toNat.inj (by have : (c6.toNat : Int) = 32 := hh; show c6.toNat = 32; omega))
      clear h6 s0 s1 s2 j0 j1 j2
      go_enter Tryz.func76, Tryz.ntmps76
      go_wp2_with fail
      refine (need_not rfl _).mono ?_
      rintro e w1 ⟨rfl, rfl⟩
      go_wp2_with fail
      exact ⟨rfl, ⟨fun t ht => (by rw [Hn.out] at ht; cases ht), fun _ => rfl, (((Below.refl w.heap.size w).alloc (Nat.le_refl _) _).alloc (by simp) _).alloc (by simp; omega) _⟩⟩
  · have h22' : ((l.length : Int) == 22) = false := by simp; omega
    have hn : tryP l = none := by unfold tryP; rw [if_neg (fun hh => h22 hh.1)]
    have Hn := Lib.hid hn; clear hn h22
    go_enter Tryz.func76, Tryz.ntmps76
    go_wp2_with fail
    refine (need_not rfl _).mono ?_
    rintro e w1 ⟨rfl, rfl⟩
    go_wp2_with fail
    exact ⟨rfl, ⟨fun t ht => (by rw [Hn.out] at ht; cases ht), fun _ => rfl, (((Below.refl w.heap.size w).alloc (Nat.le_refl _) _).alloc (by simp) _).alloc (by simp; omega) _⟩⟩

end Go.Proofs.YtjmhpfedglindaaGreatDoor
