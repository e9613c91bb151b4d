/- L1: alive. -/
import Derived.Test.YtjmhpfedglindaaGreatDoorL0
set_option linter.unusedVariables false
set_option linter.unusedSimpArgs false
namespace Go.Proofs.YtjmhpfedglindaaGreatDoor
open Go.RowKit

def file1 : List UInt8 := [35, 48, 48, 48, 48, 52, 50, 32, 54, 10, 32, 32, 32, 49, 48, 48, 32, 32, 32, 32, 32, 53, 48, 48, 32, 32, 32, 32, 32, 52, 57, 53, 32, 52, 10, 32, 32, 49, 48, 48, 48, 32, 32, 32, 32, 50, 48, 48, 48, 32, 32, 32, 32, 50, 48, 49, 48, 32, 54, 10]
def file2 : List UInt8 := [2, 42, 0, 2, 116, 0, 4, 128]
def file3 : List UInt8 := [55, 32, 49, 48, 48, 32, 51, 120, 49, 48, 32, 53, 10, 56, 32, 53, 10, 57, 10]
set_option maxRecDepth 100000
theorem alive1 : sheetsErr sheets0 = 0 := by decide
theorem alive2 : sheetsL sheets0 = file1 := by decide +kernel
theorem alive3 : platesErr plates0 = 0 := by decide
theorem alive4 : platesL plates0 = file2 := by decide +kernel
theorem alive5 : pagesErr pages0 = 0 := by decide
theorem alive6 : pagesL pages0 = file3 := by decide +kernel
theorem alive7 : readPl file2 = some plates0 := by decide +kernel

theorem Env.mono {N M : Nat} {w : World} (h : Env N w) (hm : N ≤ M) : Env M w := ⟨fun w' hb => h.tab w' (hb.mono hm), h.max, Nat.lt_of_lt_of_le h.one hm⟩
theorem own_bytes {w : World} {B n : Nat} {a : Option Addr} {c m : Nat} {l : List UInt8} (h : w.ownsRow B 5 1 (.slice a m c) l.length (Lib.byteCells l)) : m = l.length ∧ RowsR u8R 1 w.heap.size w a l := by
  rcases h.2 with ⟨h1, h2⟩ | ⟨g, cap', cur, h1, hb, hg, _⟩
  · injection h1 with h3 h4 h5
    exact ⟨by omega, fun j hj => by omega⟩
  · injection h1 with h3 h4 h5
    subst h3 h4 h5
    refine ⟨rfl, fun j hj => ⟨g, 0, [.int .u8 l[j].toNat], rfl, block_lt hg, rfl, rfl, fun i hi => ?_⟩⟩
    obtain rfl : i = 0 := by omega
    have := h.cellAt j (by omega)
    rw [Nat.zero_add, Nat.mul_one, Nat.add_zero, this]
    simp [Lib.byteCells, hj]
theorem convBytes {N : Nat} {w : World} {a : Option Addr} {c : Nat} {l : List UInt8} (h : RowsR u8R 1 N w a l) (hl : l ≠ []) : (convert 23 9 (.slice a l.length c)).run Tryz.prog w = .ok (.string ⟨l.toArray⟩) w := by
  have hpos : 0 < l.length := List.length_pos_iff.2 hl
  obtain ⟨b, off, c0, rfl, _, _, _⟩ := rows1 h 0 hpos
  refine run_convert_bytes_back w 23 9 5 ⟨b, off, none⟩ c l Tryz.underlying23 (by kernel_rfl) Tryz.underlying9 (fun j hj => ?_)
  obtain ⟨b', off', c', hab, _, hR, hd⟩ := rows1 h j hj
  obtain ⟨rfl, rfl⟩ : b = b' ∧ off = off' := by simpa using hab
  simp only [u8R, List.cons.injEq, and_true] at hR
  subst hR
  rw [Lib.addr_add]; exact hd

set_option maxHeartbeats 4000000 in
theorem alive_any (N : Nat) (w : World) (hN : N ≤ w.heap.size) (hE : Env N w) : Calls Tryz.prog 13 #[] w fun e W => e = .returned (.bool true) ∧ Below w.heap.size w W := by
  have h34 := sheets_any w
  have H34 := Lib.hid h34; clear h34
  go_enter Tryz.func13, Tryz.ntmps13
  go_wp2_with (go_at_call 34; refine H34.out.mono ?_; rintro e w1 ⟨rfl, hr1, hb1⟩; refine Hid.out ?_)
  have hs1 := hb1.size
  have hE1 : Env w1.heap.size w1 := (hE.later (hb1.mono hN)).mono (Nat.le_trans hN hs1)
  have h19 := writeSheets_any w1.heap.size sheets0 _ 1 w1 (Nat.le_refl _) hr1 (by decide) hE1
  rw [alive1, if_pos rfl, alive2] at h19
  have H19 := Lib.hid h19; clear h19
  refine Lib.hid ?_
  go_wp2_with (go_at_call 19; refine H19.out.mono ?_; rintro e w2 ⟨rfl, hb2⟩; refine Hid.out ?_)
  have hb12 : Below w.heap.size w w2 := hb1.trans (hb2.mono hs1)
  have h35 := plates_any w2
  have H35 := Lib.hid h35; clear h35
  refine Lib.hid ?_
  go_wp2_with (go_at_call 35; refine H35.out.mono ?_; rintro e w3 ⟨rfl, hr3, hb3⟩; refine Hid.out ?_)
  have hb13 : Below w.heap.size w w3 := hb12.trans (hb3.mono hb12.size)
  have h14 := writePlates_any w3.heap.size plates0 _ 2 w3 (Nat.le_refl _) hr3 (by decide)
  rw [alive3, alive4] at h14
  have H14 := Lib.hid h14; clear h14
  refine Lib.hid ?_
  go_wp2_with (go_at_call 14; refine H14.out.mono ?_; rintro e w4 ⟨v, rfl, _, hv, hb4⟩; refine Hid.out ?_)
  have hb14 : Below w.heap.size w w4 := hb13.trans (hb4.mono hb13.size)
  obtain ⟨hown, _⟩ := hv trivial
  obtain ⟨va, vc, rfl, _, _⟩ := own_slice hown
  obtain ⟨_, hrv⟩ := own_bytes (n := 0) hown
  clear hown hv
  have h25 := pages_any w4
  have H25 := Lib.hid h25; clear h25
  refine Lib.hid ?_
  go_wp2_with (go_at_call 25; refine H25.out.mono ?_; rintro e w5 ⟨rfl, hr5, hb5⟩; refine Hid.out ?_)
  have hb15 : Below w.heap.size w w5 := hb14.trans (hb5.mono hb14.size)
  have hE5 : Env w5.heap.size w5 := (hE.later (hb15.mono hN)).mono (Nat.le_trans hN hb15.size)
  have h20 := writePages_any w5.heap.size pages0 _ 3 w5 (Nat.le_refl _) hr5 (by decide) hE5
  rw [alive5, if_pos rfl, alive6] at h20
  have H20 := Lib.hid h20; clear h20
  refine Lib.hid ?_
  go_wp2_with (go_at_call 20; refine H20.out.mono ?_; rintro e w6 ⟨rfl, hb6⟩; refine Hid.out ?_)
  have hb16 : Below w.heap.size w w6 := hb15.trans (hb6.mono hb15.size)
  have hrv6 : RowsR u8R 1 w4.heap.size w6 va file2 := hrv.later (hb5.trans (hb6.mono hb5.size))
  have h16 := readPlates_any w4.heap.size file2 va vc w6 (by decide) (Nat.le_trans hb5.size hb6.size) hrv6
  have h16' : Calls Tryz.prog 16 #[.slice va file2.length vc] w6 fun e W => (∃ v, e = .returned (.tuple #[v, .int .i64 0]) ∧ W.ownsRow w6.heap.size 51 3 v plates0.length (encPs plates0)) ∧ Below w6.heap.size w6 W := by
    refine h16.mono ?_
    rintro e W ⟨⟨xs, v, hrd, rfl, ho⟩ | ⟨hrd, _⟩, hb⟩
    · rw [alive7] at hrd
      injection hrd with hrd
      subst hrd
      exact ⟨⟨v, rfl, ho⟩, hb⟩
    · rw [alive7] at hrd; cases hrd
  have H16 := Lib.hid h16'; clear h16 h16'
  refine Lib.hid ?_
  go_wp2_with (go_at_call 16; refine H16.out.mono ?_; rintro e w7 ⟨⟨v7, rfl, hown7⟩, hb7⟩; refine Hid.out ?_)
  have hs6 := hb16.size
  have hb17 : Below w.heap.size w w7 := hb16.trans (hb7.mono hs6)
  have hrv7 := hrv6.later (hb7.mono (Nat.le_trans hb5.size hb6.size))
  have hcv := convBytes (c := vc) hrv7 (by decide)
  have hcs : (⟨file2.toArray⟩ : ByteArray) = ⟨#[2, 42, 0, 2, 116, 0, 4, 128]⟩ := rfl
  rw [hcs] at hcv
  obtain ⟨pa, pc, rfl, _, _⟩ := own_slice hown7
  have h35 := plates_any w7
  have H35' := Lib.hid h35; clear h35
  have Hown7 := Lib.hid hown7; clear hown7
  have e1 : str file1 = .string ⟨#[35, 48, 48, 48, 48, 52, 50, 32, 54, 10, 32, 32, 32, 49, 48, 48, 32, 32, 32, 32, 32, 53, 48, 48, 32, 32, 32, 32, 32, 52, 57, 53, 32, 52, 10, 32, 32, 49, 48, 48, 48, 32, 32, 32, 32, 50, 48, 48, 48, 32, 32, 32, 32, 50, 48, 49, 48, 32, 54, 10]⟩ := rfl
  have e3 : str file3 = .string ⟨#[55, 32, 49, 48, 48, 32, 51, 120, 49, 48, 32, 53, 10, 56, 32, 53, 10, 57, 10]⟩ := rfl
  refine Lib.hid ?_
  go_wp2_with (go_at_call 35; refine H35'.out.mono ?_; rintro e w8 ⟨rfl, hr8, hb8⟩; refine Hid.out ?_)
  have hown8 := own_later Hown7.out hb8
  obtain ⟨_, hR8⟩ := rows_of_own hown8 w8.heap.size (Nat.le_refl _)
  have h18 := samePlates_any w8.heap.size plates0 plates0 pa _ pc 2 w8 hR8 hr8 (by decide) (by decide)
  rw [decide_eq_true rfl] at h18
  have H18 := Lib.hid h18; clear h18
  refine Lib.hid ?_
  go_wp2_with (go_at_call 18; refine H18.out.mono ?_; rintro e w9 ⟨rfl, hb9⟩)
  go_ret
  exact ⟨rfl, (hb17.trans (hb8.mono hb17.size)).trans (hb9.mono (Nat.le_trans hb17.size hb8.size))⟩
end Go.Proofs.YtjmhpfedglindaaGreatDoor
