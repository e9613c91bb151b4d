/- M1: BookTogether. -/
import Derived.Test.YtjmhpfedglindaaGreatDoorM0
import Derived.Deep.DeepCutAuto
set_option linter.unusedVariables false
set_option linter.unusedSimpArgs false
namespace Go.Proofs.YtjmhpfedglindaaGreatDoor
open Go.RowKit

theorem writeSheets_drop (N : Nat) (xs : List Sheet) (a : Option Addr) (ca k : Nat) (W : World) (hN : N ≤ W.heap.size) (hx : RowsR sheetR 2 N W a xs) (hl : xs.length ≤ ca) (hla : ca ≤ 9223372036854775807) (hE : Env N W) (hna : a = none → ca = 0) (hk : k ≤ xs.length) (hz : sheetsErr xs = 0) :
    (ca = k → Calls Tryz.prog 19 #[.slice a (xs.length - k) 0] W fun e w' => e = .returned (.tuple #[str (sheetsL (xs.drop k)), .int .i64 0]) ∧ Below W.heap.size W w') ∧
    (ca ≠ k → Calls Tryz.prog 19 #[.slice (Option.map (fun x => x.add (k * 2)) a) (xs.length - k) (ca - k)] W fun e w' => e = .returned (.tuple #[str (sheetsL (xs.drop k)), .int .i64 0]) ∧ Below W.heap.size W w') := by
  have e2 : sheetsErr (xs.drop k) = 0 := errOf_drop hz k
  have hld : (xs.drop k).length = xs.length - k := List.length_drop
  constructor
  · intro hc
    have h := writeSheets_any N (xs.drop k) a 0 W hN (RowsR.none (List.drop_eq_nil_of_le (by omega))) (by omega) hE
    rw [e2, if_pos rfl, hld] at h
    exact h
  · intro hc
    have hr : RowsR sheetR 2 N W (Option.map (fun x => x.add (k * 2)) a) (xs.drop k) := by
      cases ha : a with
      | none => have := hna ha; omega
      | some p =>
        by_cases hx0 : xs = []
        · exact RowsR.none (by simp [hx0])
        · obtain ⟨b', off', cs, hab, _⟩ := hx 0 (List.length_pos_iff.2 hx0)
          rw [ha] at hab hx
          injection hab with hab
          subst hab
          have h2 := hx.drop k
          simpa only [Option.map_some, Lib.addr_add] using h2
    have h := writeSheets_any N (xs.drop k) _ (ca - k) W hN hr (by omega) hE
    rw [e2, if_pos rfl, hld] at h
    exact h
theorem writePages_drop (N : Nat) (xs : List Page) (a : Option Addr) (ca k : Nat) (W : World) (hN : N ≤ W.heap.size) (hx : RowsR pageR 2 N W a xs) (hl : xs.length ≤ ca) (hla : ca ≤ 9223372036854775807) (hE : Env N W) (hna : a = none → ca = 0) (hk : k ≤ xs.length) (hz : pagesErr xs = 0) :
    (ca = k → Calls Tryz.prog 20 #[.slice a (xs.length - k) 0] W fun e w' => e = .returned (.tuple #[str (pagesL (xs.drop k)), .int .i64 0]) ∧ Below W.heap.size W w') ∧
    (ca ≠ k → Calls Tryz.prog 20 #[.slice (Option.map (fun x => x.add (k * 2)) a) (xs.length - k) (ca - k)] W fun e w' => e = .returned (.tuple #[str (pagesL (xs.drop k)), .int .i64 0]) ∧ Below W.heap.size W w') := by
  have e2 : pagesErr (xs.drop k) = 0 := errOf_drop hz k
  have hld : (xs.drop k).length = xs.length - k := List.length_drop
  constructor
  · intro hc
    have h := writePages_any N (xs.drop k) a 0 W hN (RowsR.none (List.drop_eq_nil_of_le (by omega))) (by omega) hE
    rw [e2, if_pos rfl, hld] at h
    exact h
  · intro hc
    have hr : RowsR pageR 2 N W (Option.map (fun x => x.add (k * 2)) a) (xs.drop k) := by
      cases ha : a with
      | none => have := hna ha; omega
      | some p =>
        by_cases hx0 : xs = []
        · exact RowsR.none (by simp [hx0])
        · obtain ⟨b', off', cs, hab, _⟩ := hx 0 (List.length_pos_iff.2 hx0)
          rw [ha] at hab hx
          injection hab with hab
          subst hab
          have h2 := hx.drop k
          simpa only [Option.map_some, Lib.addr_add] using h2
    have h := writePages_any N (xs.drop k) _ (ca - k) W hN hr (by omega) hE
    rw [e2, if_pos rfl, hld] at h
    exact h
theorem sheets_test {xs : List Sheet} (hz : sheetsErr xs = 0) (k : Nat) : (!sheetsL xs == ((⟨(sheetsL (List.take k xs)).toArray⟩ : ByteArray) ++ ⟨(sheetsL (List.drop k xs)).toArray⟩).toList) = false ∧ (sheetsL (xs.take k)).length + (sheetsL (xs.drop k)).length ≤ 100000 := by
  obtain ⟨h0, hok⟩ := errOf_ok hz
  constructor
  · rw [str_append, ← sheetsL_split]; simp
  · have h1 := sheetsL_length (xs.take k) (fun x hx => hok x (List.mem_of_mem_take hx))
    have h2 := sheetsL_length (xs.drop k) (fun x hx => hok x (List.mem_of_mem_drop hx))
    rw [List.length_take] at h1
    rw [List.length_drop] at h2
    omega
theorem pages_test {xs : List Page} (hz : pagesErr xs = 0) (k : Nat) : (pagesL xs == ((⟨(pagesL (List.take k xs)).toArray⟩ : ByteArray) ++ ⟨(pagesL (List.drop k xs)).toArray⟩).toList) = true ∧ (pagesL (xs.take k)).length + (pagesL (xs.drop k)).length ≤ 100000 := by
  obtain ⟨h0, hok⟩ := errOf_ok hz
  constructor
  · rw [str_append, ← pagesL_split]; simp
  · have h1 := pagesL_length (xs.take k) (fun x hx => hok x (List.mem_of_mem_take hx))
    have h2 := pagesL_length (xs.drop k) (fun x hx => hok x (List.mem_of_mem_drop hx))
    rw [List.length_take] at h1
    rw [List.length_drop] at h2
    omega

set_option maxRecDepth 100000 in
set_option maxHeartbeats 8000000 in
theorem together_any (N : Nat) (xs : List Sheet) (ys : List Page) (cut : Nat) (a b : Option Addr) (ca cb : Nat) (w : World) (hN : N ≤ w.heap.size) (hx : RowsR sheetR 2 N w a xs) (hy : RowsR pageR 2 N w b ys)
    (hl : xs.length ≤ ca) (hm : ys.length ≤ cb) (hla : ca ≤ 9223372036854775807) (hmb : cb ≤ 9223372036854775807) (hc : cut < 256) (hE : Env N w) (hna : a = none → ca = 0) (hnb : b = none → cb = 0) :
    Calls Tryz.prog 4 #[.slice a xs.length ca, .slice b ys.length cb, .int .u8 cut] w fun e W => e = .returned (.bool true) ∧ Below w.heap.size w W := by
  have h12 := long_any N xs 0 ys a b none ca cb 0 w hN hx hy (by omega) (by omega) (by omega)
  have H12 := Lib.hid h12; clear h12
  have h13 := fun W (hW : Below w.heap.size w W) => alive_any N W (Nat.le_trans hN hW.size) (hE.later (hW.mono hN))
  have H13 := Lib.hid h13; clear h13
  by_cases hlong : longB xs 0 ys = true
  · rw [hlong] at H12
    go_enter Tryz.func4, Tryz.ntmps4
    go_wp2_with (first
      | (go_at_call 12; refine H12.out.mono ?_; rintro e w1 ⟨rfl, hb1⟩)
      | (go_at_call 13; refine (H13.out _ hb1).mono ?_; rintro e w2 ⟨rfl, hb2⟩))
    go_ret
    exact ⟨rfl, hb1.trans (hb2.mono hb1.size)⟩
  · have hlong : longB xs 0 ys = false := by simpa using hlong
    rw [hlong] at H12
    have hlx : xs.length ≤ 18 ∧ ys.length ≤ 40 := by
      simp only [longB, Bool.or_eq_false_iff, decide_eq_false_iff_not] at hlong
      omega
    have Hlong := Lib.hid hlong; clear hlong
    have h19 := fun W (hW : Below w.heap.size w W) => writeSheets_any N xs a ca W (Nat.le_trans hN hW.size) (hx.later (hW.mono hN)) (by omega) (hE.later (hW.mono hN))
    have H19 := Lib.hid h19; clear h19
    have h20 := fun W (hW : Below w.heap.size w W) => writePages_any N ys b cb W (Nat.le_trans hN hW.size) (hy.later (hW.mono hN)) (by omega) (hE.later (hW.mono hN))
    have H20 := Lib.hid h20; clear h20
    go_enter Tryz.func4, Tryz.ntmps4
    by_cases hz : sheetsErr xs = 0
    case' pos =>
      have htest := sheets_test hz
      have Htest := Lib.hid htest; clear htest
      have htk := errOf_take hz
      have Htk := Lib.hid htk; clear htk
      have h19b := fun (k : Nat) (hk : k ≤ xs.length) W (hW : Below w.heap.size w W) => writeSheets_drop N xs a ca k W (Nat.le_trans hN hW.size) (hx.later (hW.mono hN)) hl hla (hE.later (hW.mono hN)) hna hk hz
      have H19b := Lib.hid h19b; clear h19b
      rw [hz, if_pos rfl] at H19
      clear hz
      go_wp2_with (first
        | (go_at_call 12; refine H12.out.mono ?_; rintro e w1 ⟨rfl, hb1⟩)
        | (go_at_call 19; refine (H19.out _ hb1).mono ?_; rintro e w2 ⟨rfl, hb2⟩; refine Hid.out ?_))
      obtain ⟨k, hk⟩ : ∃ k : Nat, k = cut % (xs.length + 1) := ⟨_, rfl⟩
      have hkl : k ≤ xs.length := by have := Nat.mod_lt cut (Nat.succ_pos xs.length); rw [Nat.succ_eq_add_one, ← hk] at this; omega
      have hki : (cut : Int) % ((xs.length : Int) + 1) = (k : Int) := by rw [hk]; push_cast; rfl
      clear hk
      have hb12 : Below w.heap.size w w2 := hb1.trans (hb2.mono hb1.size)
      have h19a := fun W (hW : Below w.heap.size w W) => writeSheets_any N (xs.take k) a ca W (Nat.le_trans hN hW.size) ((hx.later (hW.mono hN)).take k) (by rw [List.length_take]; omega) (hE.later (hW.mono hN))
      have e1 : sheetsErr (xs.take k) = 0 := Htk.out k
      have hlk : (xs.take k).length = k := by rw [List.length_take]; omega
      rw [hlk, e1, if_pos rfl] at h19a
      have H19a := Lib.hid h19a; clear h19a e1 hlk
      refine Lib.hid ?_
      go_wp2_with (go_at_call 19; refine (H19a.out _ hb12).mono ?_; rintro e w3 ⟨rfl, hb3⟩; refine Hid.out ?_)
      have hb13 : Below w.heap.size w w3 := hb12.trans (hb3.mono hb12.size)
      refine Lib.hid ?_
      go_upto_region 7 with fail
      go_cut [12, 13] (fun s12 s13 wx => s12 = str (sheetsL (xs.drop k)) ∧ s13 = .int .i64 0 ∧ Below w.heap.size w wx)
      case first =>
        have h := H19b.out k hkl w3 hb13
        clear H19b
        by_cases hck : ca = k
        · have H := Lib.hid (h.1 hck); clear h
          have hckp : (ca = k) = True := eq_true hck
          have hck0 : ca - k = 0 := by omega
          clear hck
          go_wp2_with fail
          refine H.out.mono ?_
          rintro e w4 ⟨rfl, hb4⟩
          go_wp2_with fail
          go_meet
          exact ⟨rfl, rfl, hb13.trans (hb4.mono hb13.size)⟩
        · have H := Lib.hid (h.2 hck); clear h
          go_wp2_with fail
          refine H.out.mono ?_
          rintro e w4 ⟨rfl, hb4⟩
          go_wp2_with fail
          go_meet
          exact ⟨rfl, rfl, hb13.trans (hb4.mono hb13.size)⟩
      obtain ⟨rfl, rfl, hb14⟩ := hcut
      clear H19b
      obtain ⟨htest, hsl⟩ := Htest.out k
      go_wp2_with fail
    case' neg =>
      have hz1 : (sheetsErr xs == 0) = false := by simpa using hz
      rw [if_neg hz] at H19
      clear hz
      generalize sheetsErr xs = q at *
      go_wp2_with (first
        | (go_at_call 12; refine H12.out.mono ?_; rintro e w1 ⟨rfl, hb1⟩)
        | (go_at_call 19; refine (H19.out _ hb1).mono ?_; rintro e wc ⟨rfl, hb2⟩; refine Hid.out ?_))
      have hb14 : Below w.heap.size w wc := hb1.trans (hb2.mono hb1.size)
      refine Lib.hid ?_
      go_wp2_with fail
    all_goals
      clear H19 H12
      by_cases hz : pagesErr ys = 0
      · have htest := pages_test hz
        have Htest2 := Lib.hid htest; clear htest
        have htk := errOf_take hz
        have Htk2 := Lib.hid htk; clear htk
        have h20b := fun (k : Nat) (hk : k ≤ ys.length) W (hW : Below w.heap.size w W) => writePages_drop N ys b cb k W (Nat.le_trans hN hW.size) (hy.later (hW.mono hN)) hm hmb (hE.later (hW.mono hN)) hnb hk hz
        have H20b := Lib.hid h20b; clear h20b
        rw [hz, if_pos rfl] at H20
        clear hz
        refine (H20.out _ hb14).mono ?_
        rintro e w5 ⟨rfl, hb5⟩
        have hb15 : Below w.heap.size w w5 := hb14.trans (hb5.mono hb14.size)
        obtain ⟨j, hj⟩ : ∃ j : Nat, j = cut % (ys.length + 1) := ⟨_, rfl⟩
        have hjl : j ≤ ys.length := by have := Nat.mod_lt cut (Nat.succ_pos ys.length); rw [Nat.succ_eq_add_one, ← hj] at this; omega
        have hji : (cut : Int) % ((ys.length : Int) + 1) = (j : Int) := by rw [hj]; push_cast; rfl
        clear hj
        have h20a := fun W (hW : Below w.heap.size w W) => writePages_any N (ys.take j) b cb W (Nat.le_trans hN hW.size) ((hy.later (hW.mono hN)).take j) (by rw [List.length_take]; omega) (hE.later (hW.mono hN))
        have e1 : pagesErr (ys.take j) = 0 := Htk2.out j
        have hlj : (ys.take j).length = j := by rw [List.length_take]; omega
        rw [hlj, e1, if_pos rfl] at h20a
        have H20a := Lib.hid h20a; clear h20a e1 hlj
        refine Lib.hid ?_
        go_wp2_with (go_at_call 20; refine (H20a.out _ hb15).mono ?_; rintro e w6 ⟨rfl, hb6⟩; refine Hid.out ?_)
        have hb16 : Below w.heap.size w w6 := hb15.trans (hb6.mono hb15.size)
        refine Lib.hid ?_
        go_upto_region 15 with fail
        go_cut [18, 19] (fun s18 s19 wx => s18 = str (pagesL (ys.drop j)) ∧ s19 = .int .i64 0 ∧ Below w.heap.size w wx)
        case first =>
          have h := H20b.out j hjl w6 hb16
          clear H20b
          by_cases hck : cb = j
          · have H := Lib.hid (h.1 hck); clear h
            have hckp : (cb = j) = True := eq_true hck
            have hck0 : cb - j = 0 := by omega
            clear hck
            go_wp2_with fail
            refine H.out.mono ?_
            rintro e w4 ⟨rfl, hb4⟩
            go_wp2_with fail
            go_meet
            exact ⟨rfl, rfl, hb16.trans (hb4.mono hb16.size)⟩
          · have H := Lib.hid (h.2 hck); clear h
            go_wp2_with fail
            refine H.out.mono ?_
            rintro e w4 ⟨rfl, hb4⟩
            go_wp2_with fail
            go_meet
            exact ⟨rfl, rfl, hb16.trans (hb4.mono hb16.size)⟩
        obtain ⟨rfl, rfl, hb17⟩ := hcut
        clear H20b
        obtain ⟨htest2, hsl2⟩ := Htest2.out j
        go_wp2_with (go_at_call 13; refine (H13.out _ hb17).mono ?_; rintro e w8 ⟨rfl, hb8⟩)
        go_ret
        exact ⟨rfl, hb17.trans (hb8.mono hb17.size)⟩
      · have hz1 : (pagesErr ys != 0) = true := by simpa using hz
        rw [if_neg hz] at H20
        clear hz
        generalize pagesErr ys = q2 at *
        refine (H20.out _ hb14).mono ?_
        rintro e w5 ⟨rfl, hb5⟩
        have hb15 : Below w.heap.size w w5 := hb14.trans (hb5.mono hb14.size)
        go_wp2_with (go_at_call 13; refine (H13.out _ hb15).mono ?_; rintro e w6 ⟨rfl, hb6⟩)
        go_ret
        exact ⟨rfl, hb15.trans (hb6.mono hb15.size)⟩
end Go.Proofs.YtjmhpfedglindaaGreatDoor
