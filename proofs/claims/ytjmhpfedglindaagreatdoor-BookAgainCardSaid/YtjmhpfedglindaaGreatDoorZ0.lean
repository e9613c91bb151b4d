/- Z0: BookAgain: the walk (printed by gen_again.py). -/
import Derived.Test.YtjmhpfedglindaaGreatDoorY4
import Derived.Test.YtjmhpfedglindaaGreatDoorX4
import Derived.Test.YtjmhpfedglindaaGreatDoorQ0
set_option linter.unusedVariables false
set_option linter.unusedSimpArgs false
set_option maxRecDepth 100000
namespace Go.Proofs.YtjmhpfedglindaaGreatDoor
open Go.RowKit

theorem readPl_ne {bs : List UInt8} {xs : List Plate} (h : readPl bs = some xs) : bs ≠ [] := by
  rintro rfl
  simp [readPl, bitsOf] at h
set_option maxHeartbeats 8000000 in
theorem again_any (s bs g : List UInt8) (a : Option Addr) (cap N : Nat) (w : World) (hN : N ≤ w.heap.size) (hE : Env N w) (hr : RowsR u8R 1 N w a bs) (hlc : bs.length ≤ cap) (hcap : cap ≤ 9223372036854775807) :
    Calls Tryz.prog 10 #[str s, .slice a bs.length cap, str g] w fun e W => e = .returned (.bool true) ∧ Below w.heap.size w W := by
  have h13 := fun W (hW : Below w.heap.size w W) => alive_any N W (by have := hW.size; omega) (hE.later (hW.mono hN))
  have H13 := Lib.hid h13; clear h13
  by_cases hs : (s.length : Int) > 3000
  · go_enter Tryz.func10, Tryz.ntmps10
    go_wp2_with fail
    refine (H13.out _ (Below.refl w.heap.size w)).mono ?_
    rintro e wz ⟨rfl, hbz⟩
    go_wp2_with fail
    go_ret
    exact ⟨rfl, ((Below.refl w.heap.size w)).trans (hbz.mono ((Below.refl w.heap.size w)).size)⟩
  by_cases hb : (bs.length : Int) > 400
  · have hs' : (s.length : Int) ≤ 3000 := by omega
    go_enter Tryz.func10, Tryz.ntmps10
    go_wp2_with fail
    refine (H13.out _ (Below.refl w.heap.size w)).mono ?_
    rintro e wz ⟨rfl, hbz⟩
    go_wp2_with fail
    go_ret
    exact ⟨rfl, ((Below.refl w.heap.size w)).trans (hbz.mono ((Below.refl w.heap.size w)).size)⟩
  by_cases hg : (g.length : Int) > 3000
  · have hs' : (s.length : Int) ≤ 3000 := by omega
    have hb' : (bs.length : Int) ≤ 400 := by omega
    go_enter Tryz.func10, Tryz.ntmps10
    go_wp2_with fail
    refine (H13.out _ (Below.refl w.heap.size w)).mono ?_
    rintro e wz ⟨rfl, hbz⟩
    go_wp2_with fail
    go_ret
    exact ⟨rfl, ((Below.refl w.heap.size w)).trans (hbz.mono ((Below.refl w.heap.size w)).size)⟩
  have hs' : (s.length : Int) ≤ 3000 := by omega
  have hb' : (bs.length : Int) ≤ 400 := by omega
  have hg' : (g.length : Int) ≤ 3000 := by omega
  have h28 := readSheets_any N s w (by omega) hN hE
  have h16 := fun W (hW : Below w.heap.size w W) => readPlates_any N bs a cap W (by omega) (by have := hW.size; omega) (hr.later (hW.mono hN))
  have h22 := fun W (hW : Below w.heap.size w W) => readPages_any N g W (by omega) (by have := hW.size; omega) (hE.later (hW.mono hN))
  have h19 := fun W (hW : Below w.heap.size w W) (xs : List Sheet) (p : Option Addr) (c : Nat) (hx : RowsR sheetR 2 W.heap.size W p xs) (hl : xs.length ≤ 9223372036854775807) => writeSheets_any W.heap.size xs p c W (Nat.le_refl _) hx hl ((hE.later (hW.mono hN)).mono (by have := hW.size; omega))
  have h14 := fun W (hW : Below w.heap.size w W) (xs : List Plate) (p : Option Addr) (c : Nat) (hx : RowsR plateR 3 W.heap.size W p xs) (hl : xs.length ≤ 9223372036854775807) => writePlates_any W.heap.size xs p c W (Nat.le_refl _) hx hl
  have h20 := fun W (hW : Below w.heap.size w W) (xs : List Page) (p : Option Addr) (c : Nat) (hx : RowsR pageR 2 W.heap.size W p xs) (hl : xs.length ≤ 9223372036854775807) => writePages_any W.heap.size xs p c W (Nat.le_refl _) hx hl ((hE.later (hW.mono hN)).mono (by have := hW.size; omega))
  have H28 := Lib.hid h28; have H16 := Lib.hid h16; have H22 := Lib.hid h22; have H19 := Lib.hid h19; have H14 := Lib.hid h14; have H20 := Lib.hid h20; clear h28 h16 h22 h19 h14 h20
  have Hr := Lib.hid hr; clear hr hs hb hg
  go_enter Tryz.func10, Tryz.ntmps10
  go_wp2_with fail
  refine H28.out.mono ?_
  rintro e w1 ⟨⟨xs, v, hx, rfl, hnest⟩ | ⟨hx, rfl⟩, hb1⟩
  · obtain ⟨pa, pn, pc, rfl⟩ := hnest.slice
    obtain ⟨rfl, hR⟩ := nestS_rows hnest w1.heap.size (Nat.le_refl _)
    obtain ⟨hz, hw⟩ := readSh_read s xs hx
    have hl1 := (err_parts hz).1
    have h19 := H19.out w1 hb1 xs pa pc hR (by omega)
    rw [if_pos hz, hz, hw] at h19
    have H19' := Lib.hid h19; clear h19 hz hw hx hR hnest
    go_wp2_with fail
    refine H19'.out.mono ?_
    rintro e w2 ⟨rfl, hb2⟩
    have hb02 := hb1.trans (hb2.mono hb1.size)
    go_wp2_with fail
    refine (H16.out _ hb02).mono ?_
    rintro e w3 ⟨⟨ps, pv, px, rfl, pown⟩ | ⟨px, rfl⟩, hb3⟩
    · obtain ⟨qa, qc, rfl, _, _⟩ := own_slice pown
      obtain ⟨-, qR⟩ := rows_of_own pown w3.heap.size (Nat.le_refl _)
      obtain ⟨hz, hw⟩ := readPl_read bs ps px
      have hl2 := (err_parts hz).1
      have hne := readPl_ne px
      have hb03 := (hb02).trans (hb3.mono (hb02).size)
      have h14 := H14.out w3 hb03 ps qa qc qR (by omega)
      rw [hz, hw] at h14
      have H14' := Lib.hid h14; clear h14 hz hw px qR pown
      go_wp2_with fail
      refine H14'.out.mono ?_
      rintro e w4 ⟨v4, rfl, _, h4, hb4⟩
      obtain ⟨o4, _⟩ := h4 (by trivial)
      obtain ⟨ra, rc, rfl, _, _⟩ := own_slice o4
      have hb04 := hb03.trans (hb4.mono hb03.size)
      have cv1 := convBytes (c := rc) (own_bytes (n := 0) o4).2 hne
      have cv2 := convBytes (c := cap) (Hr.out.later (hb04.mono hN)) hne
      clear o4 h4
      go_wp2_with fail
      refine (H22.out _ hb04).mono ?_
      rintro e w5 ⟨⟨gs, gv, gx, rfl, gown⟩ | ⟨gx, rfl⟩, hb5⟩
      · obtain ⟨ga, gn, gc, rfl⟩ := gown.slice
        obtain ⟨rfl, gR⟩ := nest_rows gown w5.heap.size (Nat.le_refl _)
        obtain ⟨hz, hw⟩ := readPg_read g gs gx
        have hl3 := (err_parts hz).1
        have hb05 := (hb04).trans (hb5.mono (hb04).size)
        have h20 := H20.out w5 hb05 gs ga gc gR (by omega)
        rw [if_pos hz, hz, hw] at h20
        have H20' := Lib.hid h20; clear h20 hz hw gx gR gown
        go_wp2_with fail
        refine H20'.out.mono ?_
        rintro e w6 ⟨rfl, hb6⟩
        have hb06 := hb05.trans (hb6.mono hb05.size)
        go_wp2_with fail
        refine (H13.out _ hb06).mono ?_
        rintro e wz ⟨rfl, hbz⟩
        go_wp2_with fail
        go_ret
        exact ⟨rfl, (hb06).trans (hbz.mono (hb06).size)⟩
      · have hb05 := (hb04).trans (hb5.mono (hb04).size)
        go_wp2_with fail
        refine (H13.out _ hb05).mono ?_
        rintro e wz ⟨rfl, hbz⟩
        go_wp2_with fail
        go_ret
        exact ⟨rfl, (hb05).trans (hbz.mono (hb05).size)⟩
    · have hb03 := (hb02).trans (hb3.mono (hb02).size)
      go_wp2_with fail
      refine (H22.out _ hb03).mono ?_
      rintro e w5 ⟨⟨gs, gv, gx, rfl, gown⟩ | ⟨gx, rfl⟩, hb5⟩
      · obtain ⟨ga, gn, gc, rfl⟩ := gown.slice
        obtain ⟨rfl, gR⟩ := nest_rows gown w5.heap.size (Nat.le_refl _)
        obtain ⟨hz, hw⟩ := readPg_read g gs gx
        have hl3 := (err_parts hz).1
        have hb05 := (hb03).trans (hb5.mono (hb03).size)
        have h20 := H20.out w5 hb05 gs ga gc gR (by omega)
        rw [if_pos hz, hz, hw] at h20
        have H20' := Lib.hid h20; clear h20 hz hw gx gR gown
        go_wp2_with fail
        refine H20'.out.mono ?_
        rintro e w6 ⟨rfl, hb6⟩
        have hb06 := hb05.trans (hb6.mono hb05.size)
        go_wp2_with fail
        refine (H13.out _ hb06).mono ?_
        rintro e wz ⟨rfl, hbz⟩
        go_wp2_with fail
        go_ret
        exact ⟨rfl, (hb06).trans (hbz.mono (hb06).size)⟩
      · have hb05 := (hb03).trans (hb5.mono (hb03).size)
        go_wp2_with fail
        refine (H13.out _ hb05).mono ?_
        rintro e wz ⟨rfl, hbz⟩
        go_wp2_with fail
        go_ret
        exact ⟨rfl, (hb05).trans (hbz.mono (hb05).size)⟩
  ·
    go_wp2_with fail
    refine (H16.out _ hb1).mono ?_
    rintro e w3 ⟨⟨ps, pv, px, rfl, pown⟩ | ⟨px, rfl⟩, hb3⟩
    · obtain ⟨qa, qc, rfl, _, _⟩ := own_slice pown
      obtain ⟨-, qR⟩ := rows_of_own pown w3.heap.size (Nat.le_refl _)
      obtain ⟨hz, hw⟩ := readPl_read bs ps px
      have hl2 := (err_parts hz).1
      have hne := readPl_ne px
      have hb03 := (hb1).trans (hb3.mono (hb1).size)
      have h14 := H14.out w3 hb03 ps qa qc qR (by omega)
      rw [hz, hw] at h14
      have H14' := Lib.hid h14; clear h14 hz hw px qR pown
      go_wp2_with fail
      refine H14'.out.mono ?_
      rintro e w4 ⟨v4, rfl, _, h4, hb4⟩
      obtain ⟨o4, _⟩ := h4 (by trivial)
      obtain ⟨ra, rc, rfl, _, _⟩ := own_slice o4
      have hb04 := hb03.trans (hb4.mono hb03.size)
      have cv1 := convBytes (c := rc) (own_bytes (n := 0) o4).2 hne
      have cv2 := convBytes (c := cap) (Hr.out.later (hb04.mono hN)) hne
      clear o4 h4
      go_wp2_with fail
      refine (H22.out _ hb04).mono ?_
      rintro e w5 ⟨⟨gs, gv, gx, rfl, gown⟩ | ⟨gx, rfl⟩, hb5⟩
      · obtain ⟨ga, gn, gc, rfl⟩ := gown.slice
        obtain ⟨rfl, gR⟩ := nest_rows gown w5.heap.size (Nat.le_refl _)
        obtain ⟨hz, hw⟩ := readPg_read g gs gx
        have hl3 := (err_parts hz).1
        have hb05 := (hb04).trans (hb5.mono (hb04).size)
        have h20 := H20.out w5 hb05 gs ga gc gR (by omega)
        rw [if_pos hz, hz, hw] at h20
        have H20' := Lib.hid h20; clear h20 hz hw gx gR gown
        go_wp2_with fail
        refine H20'.out.mono ?_
        rintro e w6 ⟨rfl, hb6⟩
        have hb06 := hb05.trans (hb6.mono hb05.size)
        go_wp2_with fail
        refine (H13.out _ hb06).mono ?_
        rintro e wz ⟨rfl, hbz⟩
        go_wp2_with fail
        go_ret
        exact ⟨rfl, (hb06).trans (hbz.mono (hb06).size)⟩
      · have hb05 := (hb04).trans (hb5.mono (hb04).size)
        go_wp2_with fail
        refine (H13.out _ hb05).mono ?_
        rintro e wz ⟨rfl, hbz⟩
        go_wp2_with fail
        go_ret
        exact ⟨rfl, (hb05).trans (hbz.mono (hb05).size)⟩
    · have hb03 := (hb1).trans (hb3.mono (hb1).size)
      go_wp2_with fail
      refine (H22.out _ hb03).mono ?_
      rintro e w5 ⟨⟨gs, gv, gx, rfl, gown⟩ | ⟨gx, rfl⟩, hb5⟩
      · obtain ⟨ga, gn, gc, rfl⟩ := gown.slice
        obtain ⟨rfl, gR⟩ := nest_rows gown w5.heap.size (Nat.le_refl _)
        obtain ⟨hz, hw⟩ := readPg_read g gs gx
        have hl3 := (err_parts hz).1
        have hb05 := (hb03).trans (hb5.mono (hb03).size)
        have h20 := H20.out w5 hb05 gs ga gc gR (by omega)
        rw [if_pos hz, hz, hw] at h20
        have H20' := Lib.hid h20; clear h20 hz hw gx gR gown
        go_wp2_with fail
        refine H20'.out.mono ?_
        rintro e w6 ⟨rfl, hb6⟩
        have hb06 := hb05.trans (hb6.mono hb05.size)
        go_wp2_with fail
        refine (H13.out _ hb06).mono ?_
        rintro e wz ⟨rfl, hbz⟩
        go_wp2_with fail
        go_ret
        exact ⟨rfl, (hb06).trans (hbz.mono (hb06).size)⟩
      · have hb05 := (hb03).trans (hb5.mono (hb03).size)
        go_wp2_with fail
        refine (H13.out _ hb05).mono ?_
        rintro e wz ⟨rfl, hbz⟩
        go_wp2_with fail
        go_ret
        exact ⟨rfl, (hb05).trans (hbz.mono (hb05).size)⟩
end Go.Proofs.YtjmhpfedglindaaGreatDoor
