/- P3: WritePlates. -/
import Derived.Test.YtjmhpfedglindaaGreatDoorP2
import Derived.Test.YtjmhpfedglindaaGreatDoorC2
import Derived.Test.YtjmhpfedglindaaGreatDoorA4
import Derived.Test.YtjmhpfedglindaaGreatDoorD1
set_option linter.unusedVariables false
set_option linter.unusedSimpArgs false
namespace Go.Proofs.YtjmhpfedglindaaGreatDoor
open Go.RowKit

/-- The number of the last plate. -/
def lastNo (last : Int) (l : List Plate) : Int := match l.getLast? with | some x => x.number | none => last
def padB (l : List Bool) : List Bool := l ++ List.replicate ((8 - l.length % 8) % 8) false
/-- The bits of plates, without the last noughts. -/
def platesBits (l : List Plate) : List Bool := natBits l.length 8 ++ platesChain 0 l
/-- The file of plates. -/
def platesL (l : List Plate) : List UInt8 := packB (padB (platesBits l))

theorem chain_snoc (last : Int) (l : List Plate) (x : Plate) : platesChain last (l ++ [x]) = platesChain last l ++ plateB x (lastNo last l) := by
  induction l generalizing last with
  | nil => simp [platesChain, lastNo]
  | cons y l ih =>
    simp only [List.cons_append, platesChain, ih, List.append_assoc]
    have : lastNo y.number l = lastNo last (y :: l) := by
      cases l with
      | nil => simp [lastNo]
      | cons z l => simp only [lastNo, List.getLast?_cons_cons]; cases h : (z :: l).getLast? with
        | none => simp at h
        | some q => rfl
    rw [this]
theorem lastNo_snoc (last : Int) (l : List Plate) (x : Plate) : lastNo last (l ++ [x]) = x.number := by simp [lastNo]
theorem lastNo_lt (xs : List Plate) (h : platesErr xs = 0) (k : Nat) (hk : k < xs.length) : lastNo 0 (xs.take k) < xs[k].number ∧ 0 ≤ lastNo 0 (xs.take k) := by
  have hok := (errOf_ok h).2
  have hb : ∀ j (hj : j < xs.length), 1 ≤ xs[j].number := by
    intro j hj
    have := hok xs[j] (List.getElem_mem _)
    simp only [Plate.okB, inB, Bool.and_eq_true, decide_eq_true_eq] at this
    exact this.1.1.1
  cases k with
  | zero => have := hb 0 hk; simp [lastNo]; omega
  | succ k =>
    rw [List.take_succ_eq_append_getElem (by omega), lastNo_snoc]
    have hr : risesB (xs.map Plate.number) = true := by
      unfold platesErr errOf at h
      split at h
      · omega
      · split at h
        · split at h
          · assumption
          · omega
        · omega
    have := (risesB_iff _).1 hr k (by simpa using hk)
    simp at this
    have := hb k (by omega)
    omega
theorem chain_length (last : Int) (l : List Plate) (h : ∀ x ∈ l, x.okB = true) (h0 : 0 ≤ last) : (platesChain last l).length ≤ l.length * 61 := by
  induction l generalizing last with
  | nil => simp [platesChain]
  | cons x l ih =>
    have hx := h x (by simp)
    simp only [Plate.okB, inB, Bool.and_eq_true, decide_eq_true_eq] at hx
    have h1 := ih x.number (fun y hy => h y (by simp [hy])) (by omega)
    have h2 := plateBody_length x last (by omega)
    simp only [platesChain, plateB, List.length_append, List.length_cons, List.length_nil] at *
    omega
theorem padB_length (l : List Bool) : (padB l).length % 8 = 0 := by simp [padB]; omega

set_option maxRecDepth 100000 in
set_option maxHeartbeats 4000000 in
theorem punchBytes_any (B b : Nat) (l : List Bool) (ones : Nat) (w : World) (h : IsPunch B b l ones w) (h8 : 8 ≤ l.length) :
    Calls Tryz.prog 41 #[.pointer (some ⟨b, 0, none⟩)] w fun e w' => ∃ g cap, e = .returned (.slice (some ⟨g, 0, none⟩) (packB l).length cap) ∧ w.ownsRow B 5 1 (.slice (some ⟨g, 0, none⟩) (packB l).length cap) (packB l).length (Lib.byteCells (packB l)) ∧ ∃ n, w' = w.drewN n := by
  obtain ⟨hB, v, lr, hblk, hown, hne⟩ := h
  obtain ⟨g, cap, rfl⟩ := own_form hown (by rw [packB_length]; omega)
  obtain ⟨_, cap', h1, h2, h3⟩ := own_slice hown
  obtain rfl : cap = cap' := by injection h1
  clear h1
  have c0 := cell_of_block hblk 0
  have c1 := cell_of_block hblk 1
  simp at c0 c1
  have Hown := Lib.hid hown
  have Hblk := Lib.hid hblk
  clear hown hblk hne
  generalize hP : (packB l).length = P at *
  go_enter Tryz.func41, Tryz.ntmps41
  go_wp2_with fail
  go_quiet (fail)
  go_wp2_with fail
  go_ret
  exact ⟨g, cap, rfl, Hown.out, nq, rfl⟩

theorem own_le {w : World} {B B' : Nat} {e : TypeId} {s : Nat} {v : Value} {n : Nat} {xs : List Value} (h : w.ownsRow B e s v n xs) (hb : B' ≤ B) : w.ownsRow B' e s v n xs :=
  ⟨h.1, h.2.imp id fun ⟨g, cap, cur, h1, h2, r⟩ => ⟨g, cap, cur, h1, Nat.le_trans hb h2, r⟩⟩
theorem replicate_step (l : List Bool) (k : Nat) (h : (l.length + k) % 8 ≠ 0) (hk : k ≤ (8 - l.length % 8) % 8) : k + 1 ≤ (8 - l.length % 8) % 8 := by omega

set_option maxRecDepth 100000 in
set_option maxHeartbeats 4000000 in
theorem writePlates_any (N : Nat) (xs : List Plate) (a : Option Addr) (cap : Nat) (w : World) (hN : N ≤ w.heap.size) (hr : RowsR plateR 3 N w a xs) (hl : xs.length ≤ 9223372036854775807) :
    Calls Tryz.prog 14 #[.slice a xs.length cap] w fun e w' => ∃ v, e = .returned (.tuple #[v, .int .i64 (platesErr xs)]) ∧ (platesErr xs ≠ 0 → v = .slice none 0 0) ∧
      (platesErr xs = 0 → w'.ownsRow w.heap.size 5 1 v (platesL xs).length (Lib.byteCells (platesL xs)) ∧ v ≠ .slice none 0 0) ∧ Below w.heap.size w w' := by
  have he := plateError_any N xs a cap w hN hr hl
  have He := Lib.hid he; clear he
  by_cases hz : platesErr xs = 0
  · obtain ⟨hlen, hok⟩ := errOf_ok hz
    have hlt0 := lastNo_lt xs hz
    rw [hz] at He ⊢
    clear hz
    have Hlt0 := Lib.hid hlt0; clear hlt0
    have Hok := Lib.hid hok; clear hok
    go_enter Tryz.func14, Tryz.ntmps14
    go_wp2_with (go_at_call 36; refine He.out.mono ?_; rintro e w1 ⟨rfl, hb1⟩; refine Hid.out ?_)
    have hI0 : IsPunch w1.heap.size w1.heap.size [] 0 (w1.alloc (.cells #[.slice none 0 0, .int .i64 0, .int .i8 0, .int .u8 0, .int .i64 0, .int .i64 0] 71)) :=
      ⟨Nat.le_refl _, .slice none 0 0, 0, block_new w1 _, World.ownsRow_nil _ _ _ _, by simp [Value.ownBlock]⟩
    have hbp : Below w.heap.size w (w1.alloc (.cells #[.slice none 0 0, .int .i64 0, .int .i8 0, .int .u8 0, .int .i64 0, .int .i64 0] 71)) := hb1.alloc hb1.size _
    have h37 := punchNumber_any w1.heap.size w1.heap.size [] 0 xs.length 8 _ hI0 (by simp) (by simp) (by omega) (by omega) (by omega)
    have H37 := Lib.hid h37; clear h37 hI0
    refine Lib.hid ?_
    go_wp2_with (go_at_call 37; refine H37.out.mono ?_; rintro e w2 ⟨rfl, hI1, hb2, hk2⟩; refine Hid.out ?_)
    have ho8 := onesB_le (natBits xs.length 8)
    rw [natBits_length] at ho8
    have hbw2 : Below w.heap.size w w2 := hbp.trans (hb2.mono hb1.size)
    have hs2 := hb2.size
    simp at hs2
    refine Lib.hid ?_
    go_wp2_with fail
    go_loopw [6, 19] (fun la i wr => ∃ k : Nat, k ≤ xs.length ∧ i = .int .i64 k ∧ la = .int .i64 (lastNo 0 (xs.take k)) ∧ (∃ o, o ≤ 1000 ∧ IsPunch w1.heap.size w1.heap.size (natBits xs.length 8 ++ platesChain 0 (xs.take k)) o wr) ∧ Below w1.heap.size w2 wr) (fun _ i _ => xs.length - (intOf i).toNat)
    case atStart => exact ⟨0, Nat.zero_le _, rfl, rfl, ⟨onesB (natBits xs.length 8), by omega, by simpa [platesChain] using hI1⟩, Below.refl _ _⟩
    case round =>
      obtain ⟨k, hk, rfl, rfl, ⟨o, ho, hI⟩, hbr⟩ := hrel
      have hwr := hbr.size
      have hbw : Below w.heap.size w wr := hbw2.trans (hbr.mono hb1.size)
      by_cases hlt : k < xs.length
      · obtain ⟨sb, soff, c0, c1, c2, rfl, hsN, hR, hd0, hd1, hd2⟩ := rows3 hr k hlt
        have hc0 := (hbw.cell (p := ⟨sb, soff + k * 3, none⟩) (Nat.lt_of_lt_of_le hsN hN)).trans hd0
        have hc1 := (hbw.cell (p := ⟨sb, soff + k * 3 + 1, none⟩) (Nat.lt_of_lt_of_le hsN hN)).trans hd1
        have hc2 := (hbw.cell (p := ⟨sb, soff + k * 3 + 2, none⟩) (Nat.lt_of_lt_of_le hsN hN)).trans hd2
        clear hd0 hd1 hd2
        simp only [plateR, List.cons.injEq, and_true] at hR
        obtain ⟨rfl, rfl, rfl⟩ := hR
        have hxok := Hok.out xs[k] (List.getElem_mem hlt)
        obtain ⟨hp1, hp2⟩ := Hlt0.out k hlt
        have hcl := chain_length 0 (xs.take k) (fun x hx => Hok.out x (List.mem_of_mem_take hx)) (Int.le_refl _)
        have hkl : (xs.take k).length = k := by simp; omega
        rw [hkl] at hcl
        have hsn := chain_snoc 0 (xs.take k) xs[k]
        have hln := lastNo_snoc 0 (xs.take k) xs[k]
        rw [← List.take_succ_eq_append_getElem hlt] at hsn hln
        have Hsn := Lib.hid hsn; clear hsn
        have Hln := Lib.hid hln; clear hln hkl
        generalize xs[k] = x at *
        generalize lastNo 0 (xs.take k) = la at *
        have hwa : Below wr.heap.size wr (wr.alloc (.cells #[.int .i64 x.number, .int .i64 x.cls, .int .i64 x.day] 51)) := (Below.refl _ _).alloc (Nat.le_refl _) _
        have h38 := punchPlate_any w1.heap.size w1.heap.size _ o x la _ (hI.later hwa) (by simp; omega) (by simp only [List.length_append, natBits_length]; omega) hxok hp2 hp1
        have H38 := Lib.hid h38; clear h38
        have hbk := block_lt hI.2.choose_spec.choose_spec.1
        have HI := Lib.hid hI; clear hI
        go_wp2_with (go_at_call 38; refine H38.out.mono ?_; rintro e w3 ⟨rfl, ⟨o', ho', hI3⟩, hb3, hk3⟩; refine Hid.out ?_)
        have hblk3 := hk3 _ _ (block_new wr (.cells #[.int .i64 x.number, .int .i64 x.cls, .int .i64 x.day] 51)) (by simp; omega) (by rintro c fz ⟨⟩)
        have x0 := cell_of_block hblk3 0
        simp at x0
        refine Lib.hid ?_
        go_wp2_with fail
        go_roundw
        case rel => exact ⟨k + 1, by omega, by go_num, by rw [Hln.out], ⟨o', ho', by rw [Hsn.out, ← List.append_assoc]; exact hI3⟩, (hbr.trans (hwa.mono (by omega))).trans hb3⟩
        case measure => simp [intOf]; omega
      · obtain rfl : k = xs.length := by omega
        rw [List.take_length] at hI
        generalize lastNo 0 (xs.take xs.length) = la
        go_wp2_with fail
        have hcl := chain_length 0 xs Hok.out (Int.le_refl _)
        have hpl : (natBits xs.length 8 ++ platesChain 0 xs).length ≤ 10000 := by simp only [List.length_append, natBits_length]; omega
        have hp8 : 8 ≤ (natBits xs.length 8 ++ platesChain 0 xs).length := by simp only [List.length_append, natBits_length]; omega
        have hpb : natBits xs.length 8 ++ platesChain 0 xs = platesBits xs := rfl
        rw [hpb] at hpl hp8 hI
        clear hpb
        obtain ⟨wo, rfl⟩ : ∃ wo : World, wo = wr := ⟨_, rfl⟩
        go_loopw [] (fun wr => ∃ k o : Nat, k ≤ (8 - (platesBits xs).length % 8) % 8 ∧ o ≤ 2000 ∧ IsPunch w1.heap.size w1.heap.size (platesBits xs ++ List.replicate k false) o wr ∧ Below w1.heap.size w2 wr) (fun wr => (8 - (intOf ((wr.cell? ⟨w1.heap.size, 4, none⟩).getD (.int .i64 0))).toNat % 8) % 8)
        case atStart => exact ⟨0, o, Nat.zero_le _, by omega, by simpa using hI, hbr⟩
        case round =>
          obtain ⟨k, o, hk, ho, hI, hbr⟩ := hrel
          have hwr := hbr.size
          have hc4 : wr.cell? ⟨w1.heap.size, 4, none⟩ = some (.int .i64 ((platesBits xs).length + k)) := by
            obtain ⟨_, v, lr, hb, _⟩ := hI; have := cell_of_block hb 4; simpa using this
          by_cases hm : ((platesBits xs).length + k) % 8 = 0
          · have hmb : ((((platesBits xs).length : Int) + k) % 8 != 0) = false := by simp; omega
            have hpad : platesBits xs ++ List.replicate k false = padB (platesBits xs) := by
              have : k = (8 - (platesBits xs).length % 8) % 8 := by omega
              rw [this]; rfl
            rw [hpad] at hI
            have hpl8 : 8 ≤ (padB (platesBits xs)).length := by rw [← hpad, List.length_append]; omega
            have h41 := punchBytes_any w1.heap.size w1.heap.size _ o wr hI hpl8
            have hpe : packB (padB (platesBits xs)) = platesL xs := rfl
            rw [hpe] at h41
            have hpn : (platesL xs).length ≤ 10000 := by
              rw [← hpe, packB_length, ← hpad, List.length_append, List.length_replicate]; omega
            have H41 := Lib.hid h41; clear h41 hI hpad hpe
            have hbwr : Below w.heap.size w wr := hbw2.trans (hbr.mono hb1.size)
            have h40 : ∀ W g cap, w1.heap.size ≤ W.heap.size → W.ownsRow w1.heap.size 5 1 (.slice (some ⟨g, 0, none⟩) (platesL xs).length cap) (platesL xs).length (Lib.byteCells (platesL xs)) →
                Calls Tryz.prog 40 #[.slice (some ⟨g, 0, none⟩) (platesL xs).length cap] W fun e w' => ∃ v', e = .returned v' ∧ w'.ownsRow W.heap.size 5 1 v' (platesL xs).length (Lib.byteCells (platesL xs)) ∧ v' ≠ .slice none 0 0 ∧ Below W.heap.size W w' := by
              intro W g cap hW hown
              have h := Tryz.bytes_Clone_at ⟨g, 0, none⟩ (platesL xs).length cap ((platesL xs).map fun b => (b.toNat : Int)) W (by simp) (by omega) (by
                intro i hi
                have hc := hown.cellAt i (by omega)
                show W.cell? (Addr.add ⟨g, 0, none⟩ i) = _
                have ha : (⟨g, 0, none⟩ : Addr).add i = ⟨g, i, none⟩ := by rw [Lib.addr_add, Nat.zero_add]
                rw [ha, hc]
                simp [Lib.byteCells, List.getElem?_eq_getElem hi, List.getD, hi])
              have e : ((platesL xs).map fun b => (b.toNat : Int)).map (Value.int .u8) = Lib.byteCells (platesL xs) := by simp [Lib.byteCells]
              rw [e] at h
              exact h
            have H40 := Lib.hid h40; clear h40
            go_wp2_with (first
              | (go_at_call 41; refine H41.out.mono ?_; rintro e w4 ⟨g, gcap, rfl, hown, nn, rfl⟩)
              | (go_at_call 40; refine (H40.out (wr.drewN nn) g gcap (by show w1.heap.size ≤ wr.heap.size; omega) hown).mono ?_; rintro e w5 ⟨v', rfl, hown5, hne5, hb5⟩))
            go_ret2
            have hbn : Below w.heap.size w (wr.drewN nn) := ⟨hbwr.os, hbwr.tape, hbwr.output, hbwr.size, hbwr.block⟩
            exact ⟨v', rfl, fun h => absurd rfl h, fun _ => ⟨own_le hown5 (by show w.heap.size ≤ wr.heap.size; exact hbwr.size), hne5⟩, hbn.trans (hb5.mono hbwr.size)⟩
          · have hmb : ((((platesBits xs).length : Int) + k) % 8 != 0) = true := by simp; omega
            have h39 := punchBit_any w1.heap.size w1.heap.size _ o false wr hI (by omega) (by simp only [List.length_append, List.length_replicate]; omega) (by omega)
            simp only [Bool.toNat_false] at h39
            have H39 := Lib.hid h39; clear h39 hI
            go_wp2_with (go_at_call 39; refine H39.out.mono ?_; rintro e w3 ⟨rfl, hI3, hb3, hk3⟩)
            have hc4' : w3.cell? ⟨w1.heap.size, 4, none⟩ = some (.int .i64 ((platesBits xs).length + k + 1)) := by
              obtain ⟨_, v, lr, hb, _⟩ := hI3; have := cell_of_block hb 4; simpa [Int.add_assoc] using this
            go_roundw
            case rel => exact ⟨k + 1, o, by omega, by omega, by rw [List.replicate_succ', ← List.append_assoc]; exact hI3, hbr.trans hb3⟩
            case measure => rw [hc4, hc4']; simp [intOf]; omega
  · have hz' : (platesErr xs != 0) = true := by simpa using hz
    generalize platesErr xs = q at *
    go_enter Tryz.func14, Tryz.ntmps14
    go_wp2_with (go_at_call 36; refine He.out.mono ?_; rintro e w1 ⟨rfl, hb1⟩)
    go_ret2
    exact ⟨_, rfl, fun _ => rfl, fun h => absurd h hz, hb1⟩
end Go.Proofs.YtjmhpfedglindaaGreatDoor
