/- P2: numbers and plates of the punch. -/
import Derived.Test.YtjmhpfedglindaaGreatDoorP1
import Derived.Lib.RabinKarpLaws
import Derived.Lib.BitFns
import Derived.Lib.ItoaNum
set_option linter.unusedVariables false
set_option linter.unusedSimpArgs false
namespace Go.Proofs.YtjmhpfedglindaaGreatDoor
open Go.RowKit

theorem shrBit (n k : Nat) (h : n < 9223372036854775808) : bits BinOp.and IntKind.i64 ((n : Int) / 2 ^ k) 1 = ((n.testBit k).toNat : Int) := by
  have e : ((n : Int) / 2 ^ k) = ((n / 2 ^ k : Nat) : Int) := by push_cast; rfl
  rw [e, Go.Proofs.and_one _ (Nat.lt_of_le_of_lt (Nat.div_le_self _ _) h), Nat.toNat_testBit]
theorem natBits_pos (n j : Nat) (h : j ≠ 0) : natBits n j = n.testBit (j - 1) :: natBits n (j - 1) := by
  cases j with
  | zero => exact absurd rfl h
  | succ j => rfl
set_option maxRecDepth 100000 in
set_option maxHeartbeats 4000000 in
theorem punchNumber_any (B b : Nat) (l : List Bool) (ones n many : Nat) (w : World) (h : IsPunch B b l ones w) (hB : B ≤ w.heap.size) (hl : l.length + many ≤ 1000000) (ho : ones + many ≤ 1000000) (hn : n ≤ 4611686018427387904) (hm : many ≤ 60) :
    Calls Tryz.prog 37 #[.pointer (some ⟨b, 0, none⟩), .int .i64 n, .int .i64 many] w fun e w' => e = .returned (.tuple #[]) ∧ IsPunch B b (l ++ natBits n many) (ones + onesB (natBits n many)) w' ∧ Below B w w' ∧ Lib.OthersKept 5 (some b) w w' := by
  go_enter Tryz.func37, Tryz.ntmps37
  go_wp2_with fail
  go_loopw [6] (fun i wr => ∃ (j : Nat) (pre : List Bool), j ≤ many ∧ i = .int .i64 ((j : Int) - 1) ∧ pre ++ natBits n j = natBits n many ∧ IsPunch B b (l ++ pre) (ones + onesB pre) wr ∧ Below B w wr ∧ Lib.OthersKept 5 (some b) w wr) (fun i _ => (intOf i + 1).toNat)
  case atStart => exact ⟨many, [], Nat.le_refl _, rfl, rfl, by simpa [onesB] using h, Below.refl _ _, Lib.OthersKept.refl _ _ _⟩
  case round =>
    obtain ⟨j, pre, hj, rfl, hpre, hI, hbr, hkr⟩ := hrel
    have hwr := hbr.size
    have hlen : pre.length + j = many := by have := congrArg List.length hpre; simpa [natBits_length] using this
    have hop := onesB_le pre
    by_cases hj0 : j = 0
    · subst hj0
      go_wp2_with fail
      go_end0
      obtain rfl : pre = natBits n many := by simpa [natBits] using hpre
      exact ⟨rfl, hI, hbr, hkr⟩
    · have hbit := shrBit n (j - 1) (by omega)
      have hnb := natBits_pos n j hj0
      have hc : (n.testBit (j - 1)).toNat ≤ 1 := by cases n.testBit (j - 1) <;> simp
      have h39 := punchBit_any B b (l ++ pre) (ones + onesB pre) (n.testBit (j - 1)) wr hI (by omega) (by rw [List.length_append]; omega) (by omega)
      have H39 := Lib.hid h39; clear h39 hI
      have Hnb := Lib.hid hnb; clear hnb
      have Hpre := Lib.hid hpre; clear hpre
      generalize hcc : n.testBit (j - 1) = c at *
      go_wp2_with (go_at_call 39; refine H39.out.mono ?_; rintro e w1 ⟨rfl, hI1, hb1, hk1⟩)
      go_roundw
      case rel => exact ⟨j - 1, pre ++ [c], by omega, by go_num, by rw [← Hpre.out, Hnb.out]; simp, by rw [onesB_append, ← List.append_assoc, ← Nat.add_assoc]; simpa [onesB] using hI1, hbr.trans hb1, hkr.trans hk1⟩
      case measure => simp [intOf]; omega

/-- A gamma number. -/
def gammaB (n : Nat) : List Bool := natBits n (2 * Lib.bitLen n - 1)
/-- A plate after another one, without its last bit. -/
def plateBody (x : Plate) (last : Int) : List Bool := gammaB (x.number - last).toNat ++ natBits x.cls.toNat 3 ++ natBits x.day.toNat 18
def plateB (x : Plate) (last : Int) : List Bool := plateBody x last ++ [decide (onesB (plateBody x last) % 2 = 1)]
def platesChain : Int → List Plate → List Bool
  | _, [] => []
  | last, x :: l => plateB x last ++ platesChain x.number l

theorem gammaB_length (n : Nat) (h : n < 2 ^ 20) : (gammaB n).length ≤ 39 := by
  have := Lib.bitLen_le n 20 (by omega) h
  rw [gammaB, natBits_length]; omega
theorem plateBody_length (x : Plate) (last : Int) (h : (x.number - last).toNat < 2 ^ 20) : (plateBody x last).length ≤ 60 := by
  have := gammaB_length _ h
  simp only [plateBody, List.length_append, natBits_length]; omega

set_option maxRecDepth 100000 in
set_option maxHeartbeats 4000000 in
theorem punchGamma_any (B b : Nat) (l : List Bool) (ones n : Nat) (w : World) (h : IsPunch B b l ones w) (hB : B ≤ w.heap.size) (hl : l.length ≤ 900000) (ho : ones ≤ 900000) (hn0 : 0 < n) (hn : n < 2 ^ 20) :
    Calls Tryz.prog 81 #[.pointer (some ⟨b, 0, none⟩), .int .i64 n] w fun e w' => e = .returned (.tuple #[]) ∧ IsPunch B b (l ++ gammaB n) (ones + onesB (gammaB n)) w' ∧ Below B w w' ∧ Lib.OthersKept 5 (some b) w w' := by
  have hb := Lib.bitLen_le n 20 (by omega) hn
  have hb1 := (Lib.bitLenAux_bounds 64 n (by omega) (by omega)).1
  have hb1 : 1 ≤ Lib.bitLen n := hb1
  have h37 := punchNumber_any B b l ones n (2 * Lib.bitLen n - 1) w h hB (by omega) (by omega) (by omega) (by omega)
  have e1 : ((2 * Lib.bitLen n - 1 : Nat) : Int) = 2 * (Lib.bitLen n : Int) - 1 := by omega
  rw [e1] at h37
  have H37 := Lib.hid h37; clear h37
  have h112 := Tryz.bits_Len n w (by omega) (by omega)
  have e2 : (n : Int).toNat = n := by omega
  rw [e2] at h112
  have H112 := Lib.hid h112; clear h112 e1 e2
  have hg : gammaB n = natBits n (2 * Lib.bitLen n - 1) := rfl
  rw [hg]
  generalize Lib.bitLen n = q at *
  go_enter Tryz.func81, Tryz.ntmps81
  go_wp2_with (first | (go_at_call 112; refine H112.out.mono ?_; rintro e w1 ⟨rfl, rfl⟩) | (go_at_call 37; refine H37.out.mono ?_; rintro e w1 ⟨rfl, hI1, hb1, hk1⟩))
  go_end0
  exact ⟨rfl, hI1, hb1, hk1⟩

theorem IsPunch.reset {B b : Nat} {l : List Bool} {ones : Nat} {w : World} (h : IsPunch B b l ones w) : IsPunch B b l 0 (w.setCell ⟨b, 5, none⟩ (.int .i64 0)) := by
  obtain ⟨hB, v, lr, hblk, hown, hne⟩ := h
  refine ⟨hB, v, lr, ?_, ownsRow_setCell_other hown hne _, hne⟩
  rw [block_set hblk 5 _]; simp

set_option maxRecDepth 100000 in
set_option maxHeartbeats 4000000 in
theorem punchPlate_any (B b : Nat) (l : List Bool) (ones : Nat) (x : Plate) (last : Int) (w : World) (h : IsPunch B b l ones w) (hB : B ≤ w.heap.size) (hl : l.length ≤ 100000) (hx : x.okB = true) (h0 : 0 ≤ last) (h1 : last < x.number) :
    Calls Tryz.prog 38 #[.pointer (some ⟨b, 0, none⟩), .agg #[.int .i64 x.number, .int .i64 x.cls, .int .i64 x.day], .int .i64 last] w fun e w' => e = .returned (.tuple #[]) ∧ (∃ o, o ≤ 1000 ∧ IsPunch B b (l ++ plateB x last) o w') ∧ Below B w w' ∧ Lib.OthersKept 5 (some b) w w' := by
  obtain ⟨n, c, d⟩ := x
  simp only [Plate.okB, inB, Bool.and_eq_true, decide_eq_true_eq] at hx
  have h1 : last < n := h1
  have hbl := block_lt h.2.choose_spec.choose_spec.1
  have hbne : w.heap.size ≠ b := by omega
  have hI0 : IsPunch B b l 0 ((w.setCell ⟨b, 5, none⟩ (.int .i64 0)).alloc (.cells #[.int .i64 n, .int .i64 c, .int .i64 d] 51)) := h.reset.later ((Below.refl _ _).alloc (Nat.le_refl _) _)
  have hsz : (w.setCell ⟨b, 5, none⟩ (.int .i64 0)).heap.size = w.heap.size := by simp
  have hblk0 : ((w.setCell ⟨b, 5, none⟩ (.int .i64 0)).alloc (.cells #[.int .i64 n, .int .i64 c, .int .i64 d] 51)).heap[w.heap.size]? = some (.cells #[.int .i64 n, .int .i64 c, .int .i64 d] 51 (0, 0)) := by
    have := block_new (w.setCell ⟨b, 5, none⟩ (.int .i64 0)) (.cells #[.int .i64 n, .int .i64 c, .int .i64 d] 51)
    rwa [hsz] at this
  have hc5 : w.cell? ⟨b, 5, none⟩ = some (.int .i64 ones) := by obtain ⟨_, v, lr, hb, _⟩ := h; simpa using cell_of_block hb 5
  have hf5 : w.frozen? ⟨b, 5, none⟩ = false := by obtain ⟨_, v, lr, hb, _⟩ := h; exact free_of_block hb 5
  have hb0 : Below B w ((w.setCell ⟨b, 5, none⟩ (.int .i64 0)).alloc (.cells #[.int .i64 n, .int .i64 c, .int .i64 d] 51)) := ((Below.refl _ _).setCell (p := ⟨b, 5, none⟩) h.1 _).alloc (by rw [hsz]; exact hB) _
  have hk0 : Lib.OthersKept 5 (some b) w ((w.setCell ⟨b, 5, none⟩ (.int .i64 0)).alloc (.cells #[.int .i64 n, .int .i64 c, .int .i64 d] 51)) := ((Lib.OthersKept.refl 5 (some b) w).setCell _ rfl _).alloc _
  have hs0 : ((w.setCell ⟨b, 5, none⟩ (.int .i64 0)).alloc (.cells #[.int .i64 n, .int .i64 c, .int .i64 d] 51)).heap.size = w.heap.size + 1 := by simp
  obtain ⟨m, hm⟩ : ∃ m : Nat, m = (n - last).toNat := ⟨_, rfl⟩
  obtain ⟨cn, rfl⟩ : ∃ cn : Nat, c = (cn : Int) := ⟨c.toNat, by omega⟩
  obtain ⟨dn, rfl⟩ : ∃ dn : Nat, d = (dn : Int) := ⟨d.toNat, by omega⟩
  have hgl := gammaB_length m (by omega)
  have ew : ((m : Nat) : Int) = n - last := by omega
  have hbody : plateB ⟨n, cn, dn⟩ last = gammaB m ++ natBits cn 3 ++ natBits dn 18 ++ [decide (onesB (gammaB m ++ natBits cn 3 ++ natBits dn 18) % 2 = 1)] := by
    simp [plateB, plateBody, ← hm]
  rw [hbody]
  have hol : onesB (gammaB m ++ natBits cn 3 ++ natBits dn 18) ≤ 60 := by
    refine Nat.le_trans (onesB_le _) ?_
    simp only [List.length_append, natBits_length]; omega
  have l3 := natBits_length cn 3
  have l18 := natBits_length dn 18
  have o1 := onesB_append (gammaB m) (natBits cn 3)
  have o2 := onesB_append (gammaB m ++ natBits cn 3) (natBits dn 18)
  have h81 := punchGamma_any B b l 0 m _ hI0 (by omega) (by omega) (by omega) (by omega) (by omega)
  rw [ew] at h81
  clear ew hm
  have H81 := Lib.hid h81; clear h81
  generalize gammaB m = gm at *
  have HI0 := Lib.hid hI0; clear hI0 h
  have Hblk0 := Lib.hid hblk0; clear hblk0
  have O1 := Lib.hid o1; clear o1
  have O2 := Lib.hid o2; clear o2
  go_enter Tryz.func38, Tryz.ntmps38
  go_wp2_with (go_at_call 81; refine H81.out.mono ?_; rintro e w1 ⟨rfl, hI1, hb1, hk1⟩; refine Hid.out ?_)
  have hs1 := hb1.size
  have hblk1 := hk1 _ _ Hblk0.out (by simp; omega) (by rintro c fz ⟨⟩)
  have x1 := cell_of_block hblk1 1
  have x2 := cell_of_block hblk1 2
  simp at x1 x2
  have h37 := punchNumber_any B b _ _ cn 3 w1 hI1 (by omega) (by simp only [List.length_append]; omega) (by have := onesB_le gm; omega) (by omega) (by omega)
  have H37 := Lib.hid h37; clear h37 hI1
  have Hblk1 := Lib.hid hblk1; clear hblk1
  refine Lib.hid ?_
  go_wp2_with (go_at_call 37; refine H37.out.mono ?_; rintro e w2 ⟨rfl, hI2, hb2, hk2⟩; refine Hid.out ?_)
  have hs2 := hb2.size
  have hblk2 := hk2 _ _ Hblk1.out (by simp; omega) (by rintro c fz ⟨⟩)
  have y2 := cell_of_block hblk2 2
  simp at y2
  have h37 := punchNumber_any B b _ _ dn 18 w2 hI2 (by omega) (by simp only [List.length_append]; omega) (by have := onesB_le gm; have := onesB_le (natBits cn 3); omega) (by omega) (by omega)
  have H37 := Lib.hid h37; clear h37 hI2
  refine Lib.hid ?_
  go_wp2_with (go_at_call 37; refine H37.out.mono ?_; rintro e w3 ⟨rfl, hI3, hb3, hk3⟩; refine Hid.out ?_)
  have hs3 := hb3.size
  have eo : 0 + onesB gm + onesB (natBits cn 3) + onesB (natBits dn 18) = onesB (gm ++ natBits cn 3 ++ natBits dn 18) := by rw [O2.out, O1.out]; omega
  rw [eo] at hI3
  have hol' := hol
  clear eo
  have el : l ++ gm ++ natBits cn 3 ++ natBits dn 18 = l ++ (gm ++ natBits cn 3 ++ natBits dn 18) := by simp
  rw [el] at hI3
  clear el
  have hbll : (gm ++ natBits cn 3 ++ natBits dn 18).length ≤ 60 := by simp only [List.length_append]; omega
  obtain ⟨body, hbd⟩ : ∃ body, body = gm ++ natBits cn 3 ++ natBits dn 18 := ⟨_, rfl⟩
  rw [← hbd] at hI3 hbll
  have hob := onesB_le body
  have Hbd := Lib.hid hbd; clear hbd
  have hc5' : w3.cell? ⟨b, 5, none⟩ = some (.int .i64 (onesB body)) := by obtain ⟨_, v, lr, hb, _⟩ := hI3; simpa using cell_of_block hb 5
  have ed : ((decide (onesB body % 2 = 1)).toNat : Int) = (onesB body : Int) % 2 := by
    by_cases hd : onesB body % 2 = 1 <;> simp [hd] <;> omega
  have h39 := punchBit_any B b (l ++ body) (onesB body) (decide (onesB body % 2 = 1)) w3 hI3 (by omega) (by simp only [List.length_append]; omega) (by omega)
  rw [ed] at h39
  have H39 := Lib.hid h39; clear h39 hI3 ed
  refine Lib.hid ?_
  go_wp2_with (go_at_call 39; refine H39.out.mono ?_; rintro e w4 ⟨rfl, hI4, hb4, hk4⟩)
  go_end0
  rw [← Hbd.out]
  refine ⟨rfl, ⟨_, ?_, by rw [← List.append_assoc]; exact hI4⟩, (((hb0.trans hb1).trans hb2).trans hb3).trans hb4, (((hk0.trans hk1).trans hk2).trans hk3).trans hk4⟩
  have : (decide (onesB body % 2 = 1)).toNat ≤ 1 := by cases decide (onesB body % 2 = 1) <;> simp
  omega
end Go.Proofs.YtjmhpfedglindaaGreatDoor
