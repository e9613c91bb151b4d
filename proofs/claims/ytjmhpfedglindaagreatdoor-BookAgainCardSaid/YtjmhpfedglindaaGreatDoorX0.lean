/- X0: numbers, lines and growths out of texts: the walks. -/
import Derived.Test.YtjmhpfedglindaaGreatDoorV2
import Derived.Test.YtjmhpfedglindaaGreatDoorM0
set_option linter.unusedVariables false
set_option linter.unusedSimpArgs false
namespace Go.Proofs.YtjmhpfedglindaaGreatDoor
open Go.RowKit

theorem figure_nondig {l : List UInt8} {i : Nat} (hi : i < l.length) (h : isDig l[i] = false) : figureP l = none := by
  unfold figureP
  rw [if_neg]
  rintro ⟨_, _, _, h4⟩
  rw [List.all_eq_true] at h4
  rw [h4 _ (List.getElem_mem hi)] at h
  cases h
theorem figure_guard {l : List UInt8} (h : ¬ (l ≠ [] ∧ l.length ≤ 12 ∧ (l = [48] ∨ l.head? ≠ some 48))) : figureP l = none := by
  unfold figureP
  rw [if_neg]
  rintro ⟨h1, h2, h3, _⟩
  exact h ⟨h1, h2, h3⟩
theorem figure_all {l : List UInt8} (h : l ≠ [] ∧ l.length ≤ 12 ∧ (l = [48] ∨ l.head? ≠ some 48)) (h2 : l.all isDig = true) : figureP l = some (numL l) := by
  unfold figureP
  rw [if_pos ⟨h.1, h.2.1, h.2.2, h2⟩]
theorem need_is {b : Bool} (h : b = true) (w : World) : Calls Tryz.prog 48 #[.bool b] w fun e w' => e = .returned (.tuple #[]) ∧ w = w' := by
  subst h; exact (need_true w).mono fun _ _ h => ⟨h.1, h.2.symm⟩
theorem need_not {b : Bool} (h : b = false) (w : World) : Calls Tryz.prog 48 #[.bool b] w fun e w' => e = .panicked misfit ∧ w = w' := by
  subst h; exact (need_false w).mono fun _ _ h => ⟨h.1, h.2.symm⟩
theorem byte0 (c : UInt8) (q : List UInt8) (h : 0 < (⟨(c :: q).toArray⟩ : ByteArray).size) : (⟨(c :: q).toArray⟩ : ByteArray)[0] = c := rfl
/-- One digit more. -/
theorem figure_step {s : ByteArray} {pos r n : Nat} (h : Step s pos r n) (hp : pos < s.size) (h1 : 48 ≤ (r : Int)) (h2 : (r : Int) ≤ 57) (ha : (s.data.toList.take pos).all isDig = true) :
    n = 1 ∧ numL (s.data.toList.take (pos + 1)) = 10 * numL (s.data.toList.take pos) + (r - 48) ∧ (s.data.toList.take (pos + 1)).all isDig = true := by
  have hlow : s[pos].toNat < 128 := by
    by_cases hl : s[pos].toNat < 128
    · exact hl
    · have := (h.high hp (by omega)).1; omega
  obtain ⟨hr, hn⟩ := h.low hp hlow
  have ht : s.data.toList.take (pos + 1) = s.data.toList.take pos ++ [s[pos]] := by
    rw [List.take_succ_eq_append_getElem (by simpa using hp)]; rfl
  refine ⟨hn, ?_, ?_⟩
  · rw [ht, numL_snoc, digN, hr]
  · rw [ht, List.all_append, ha]
    simp only [List.all_cons, List.all_nil, Bool.and_true, Bool.true_and, isDig, decide_eq_true_eq]
    omega
theorem figure_stop {s : ByteArray} {pos r n : Nat} (h : Step s pos r n) (hp : pos < s.size) (hr : ¬ (48 ≤ (r : Int) ∧ (r : Int) ≤ 57)) : figureP s.data.toList = none := by
  have hp' : pos < s.data.toList.length := by simpa using hp
  refine figure_nondig hp' ?_
  show isDig s[pos] = false
  by_cases hl : s[pos].toNat < 128
  · obtain ⟨hr', _⟩ := h.low hp hl
    simp only [isDig, decide_eq_false_iff_not]; omega
  · simp only [isDig, decide_eq_false_iff_not]; omega

set_option maxRecDepth 100000 in
set_option maxHeartbeats 1000000 in
theorem figure_walk (l : List UInt8) (hl : l.length ≤ 4000000000) (w : World) :
    Calls Tryz.prog 104 #[str l] w fun e w' => (∀ n, figureP l = some n → e = .returned (.int .i64 n)) ∧ (figureP l = none → e = .panicked misfit) ∧ Below w.heap.size w w' := by
  by_cases h0 : l = []
  · subst h0
    have hnone : figureP [] = none := rfl
    have Hn := Lib.hid hnone; clear hnone
    go_enter Tryz.func104, Tryz.ntmps104
    go_wp2_with (go_at_call 48; refine (need_false _).mono ?_; rintro e w' ⟨rfl, rfl⟩)
    exact ⟨rfl, ⟨fun n hn => (by rw [Hn.out] at hn; cases hn), fun _ => rfl, Below.refl _ _⟩⟩
  · obtain ⟨c, q, rfl⟩ := List.exists_cons_of_ne_nil h0
    by_cases hg : (c :: q).length ≤ 12 ∧ ((c :: q) = [48] ∨ c ≠ 48)
    case' neg =>
      have hnone : figureP (c :: q) = none := figure_guard (by
        rintro ⟨_, a, b⟩
        refine hg ⟨a, ?_⟩
        simpa using b)
      have Hn := Lib.hid hnone; clear hnone
      by_cases h12 : (c :: q).length ≤ 12
      · have hc : c = 48 := by
          by_cases hc : c = 48
          · exact hc
          · exact absurd ⟨h12, .inr hc⟩ hg
        have hq : (c :: q) ≠ [48] := fun h => hg ⟨h12, .inl h⟩
        subst hc
        have hq' : ¬ q = [] := fun h => hq (by rw [h])
        have h12' : (q.length : Int) + 1 ≤ 12 := by simp at h12; omega
        have Hq := Lib.hid hq'
        clear hq hg h12
        go_enter Tryz.func104, Tryz.ntmps104
        go_wp2_with (go_at_call 48; refine (need_not (by simp [byte0, Hq.out]) _).mono ?_; rintro e w' ⟨rfl, rfl⟩)
        exact ⟨rfl, ⟨fun n hn => (by rw [Hn.out] at hn; cases hn), fun _ => rfl, Below.refl _ _⟩⟩
      · have h12' : 12 < (q.length : Int) + 1 := by simp at h12; omega
        clear hg h12
        go_enter Tryz.func104, Tryz.ntmps104
        go_wp2_with (go_at_call 48; refine (need_false _).mono ?_; rintro e w' ⟨rfl, rfl⟩)
        exact ⟨rfl, ⟨fun n hn => (by rw [Hn.out] at hn; cases hn), fun _ => rfl, Below.refl _ _⟩⟩
    have hgd : (c :: q) ≠ [] ∧ (c :: q).length ≤ 12 ∧ ((c :: q) = [48] ∨ (c :: q).head? ≠ some 48) := ⟨by simp, hg.1, by simpa using hg.2⟩
    have hall := figure_all hgd
    have Hall := Lib.hid hall; clear hall hgd
    have h12' : (q.length : Int) + 1 ≤ 12 := by have := hg.1; simp at this; omega
    rcases hg.2 with hz | hz
    · simp only [List.cons.injEq] at hz
      obtain ⟨rfl, rfl⟩ := hz
      have hsz : (⟨([48] : List UInt8).toArray⟩ : ByteArray).size = 1 := rfl
      have Hsz0 := Lib.hid hsz; clear hsz
      go_enter Tryz.func104, Tryz.ntmps104
      go_wp2_with (go_at_call 48; refine (need_is rfl _).mono ?_; rintro e w' ⟨rfl, rfl⟩)
      go_loopw [2] (fun n wr => ∃ pos : Nat, pos ≤ (⟨([48] : List UInt8).toArray⟩ : ByteArray).size ∧ wr.heap[w.heap.size]? = some (.stringIter (⟨([48] : List UInt8).toArray⟩ : ByteArray) pos) ∧ Below w.heap.size w wr ∧ n = .int .i64 (numL ((⟨([48] : List UInt8).toArray⟩ : ByteArray).data.toList.take pos)) ∧ ((⟨([48] : List UInt8).toArray⟩ : ByteArray).data.toList.take pos).all isDig = true) (fun _ wr => (⟨([48] : List UInt8).toArray⟩ : ByteArray).size - wr.iterPos w.heap.size)
      case atStart => exact ⟨0, Nat.zero_le _, World.iter_heap w (⟨([48] : List UInt8).toArray⟩ : ByteArray) 0, (Below.refl _ _).alloc (Nat.le_refl _) _, rfl, rfl⟩
      case round =>
        obtain ⟨pos, hps, hk, hbr, rfl, hal⟩ := hrel
        have hsz12 : (⟨([48] : List UInt8).toArray⟩ : ByteArray).size ≤ 12 := by rw [Hsz0.out]; omega
        have hlt12 := numL_lt ((⟨([48] : List UInt8).toArray⟩ : ByteArray).data.toList.take pos) (List.all_eq_true.1 hal)
        have hp10 : numL ((⟨([48] : List UInt8).toArray⟩ : ByteArray).data.toList.take pos) < 1000000000000 := by
          have h1 : ((⟨([48] : List UInt8).toArray⟩ : ByteArray).data.toList.take pos).length ≤ 12 := by rw [List.length_take]; omega
          have h2 : 10 ^ ((⟨([48] : List UInt8).toArray⟩ : ByteArray).data.toList.take pos).length ≤ 10 ^ 12 := Nat.pow_le_pow_right (by omega) h1
          omega
        clear hlt12
        by_cases hp : pos < (⟨([48] : List UInt8).toArray⟩ : ByteArray).size
        · have hst := decode_step (⟨([48] : List UInt8).toArray⟩ : ByteArray) pos hp
          have hnext : ∀ ty, (Instr.next (.pointer (some ⟨w.heap.size, 0, none⟩)) true ty).run Tryz.prog wr = _ := fun ty => Lib.run_next_any_at wr w.heap.size (⟨([48] : List UInt8).toArray⟩ : ByteArray) pos ty hk hp
          have hfit := hst.fits
          have hone := hst.pos1
          have hbd := hst.bound
          have hstp := fun h1 h2 => figure_step hst hp h1 h2 hal
          have hstop := figure_stop hst hp
          rw [show (⟨([48] : List UInt8).toArray⟩ : ByteArray).data.toList = [48] from rfl] at hstop
          have Hstp := Lib.hid hstp; clear hstp
          have Hstop := Lib.hid hstop; clear hstop
          clear hst hal
          have hk1 := Lib.iterAt_heap wr w.heap.size (⟨([48] : List UInt8).toArray⟩ : ByteArray) pos (pos + (Utf8.decode (⟨([48] : List UInt8).toArray⟩ : ByteArray) pos).2) hk
          have hb1 := Lib.below_iterAt hbr (Nat.le_refl w.heap.size) (⟨([48] : List UInt8).toArray⟩ : ByteArray) (pos + (Utf8.decode (⟨([48] : List UInt8).toArray⟩ : ByteArray) pos).2)
          generalize (Utf8.decode (⟨([48] : List UInt8).toArray⟩ : ByteArray) pos).1 = r at *
          generalize (Utf8.decode (⟨([48] : List UInt8).toArray⟩ : ByteArray) pos).2 = n at *
          generalize hnn : numL ((⟨([48] : List UInt8).toArray⟩ : ByteArray).data.toList.take pos) = m at *
          have Hnn := Lib.hid hnn; clear hnn
          generalize hw1 : wr.iterAt w.heap.size (⟨([48] : List UInt8).toArray⟩ : ByteArray) (pos + n) = w1 at *
          have Hw1 := Lib.hid hw1; clear hw1
          by_cases h1 : 48 ≤ (r : Int)
          · by_cases h2 : (r : Int) ≤ 57
            · have e1 : IntKind.i32.wrap ((r : Int) - 48) = (r : Int) - 48 := IntWalk.i32_in _ (by omega)
              go_wp2_with (go_at_call 48; refine (need_is rfl _).mono ?_; rintro e w' ⟨rfl, rfl⟩)
              go_roundw
              case rel =>
                obtain ⟨rfl, q2, q3⟩ := Hstp.out h1 h2
                exact ⟨pos + 1, hfit, hk1, hb1, by rw [q2]; push_cast; congr 1; omega, q3⟩
              case measure => simp [World.iterPos, hk, hk1]; omega
            · have hnone := Hstop.out (by omega)
              have Hn := Lib.hid hnone; clear hnone
              go_wp2_with (go_at_call 48; refine (need_not rfl _).mono ?_; rintro e w' ⟨rfl, rfl⟩)
              exact ⟨rfl, ⟨fun n hn => (by rw [Hn.out] at hn; cases hn), fun _ => rfl, hb1⟩⟩
          · have hnone := Hstop.out (by omega)
            have Hn := Lib.hid hnone; clear hnone
            go_wp2_with (go_at_call 48; refine (need_not rfl _).mono ?_; rintro e w' ⟨rfl, rfl⟩)
            exact ⟨rfl, ⟨fun n hn => (by rw [Hn.out] at hn; cases hn), fun _ => rfl, hb1⟩⟩
        · have hnext : ∀ ty, (Instr.next (.pointer (some ⟨w.heap.size, 0, none⟩)) true ty).run Tryz.prog wr = _ := fun ty => Lib.run_next_end_at wr w.heap.size (⟨([48] : List UInt8).toArray⟩ : ByteArray) pos ty hk hp
          have ht : (⟨([48] : List UInt8).toArray⟩ : ByteArray).data.toList.take pos = (⟨([48] : List UInt8).toArray⟩ : ByteArray).data.toList := List.take_of_length_le (by simp; simp [ByteArray.size] at hp; omega)
          rw [ht, show (⟨([48] : List UInt8).toArray⟩ : ByteArray).data.toList = [48] from rfl] at hal ⊢
          have hfin := Hall.out hal
          have Hfin := Lib.hid hfin; clear hfin hal ht
          go_wp2_with fail
          go_ret
          refine ⟨fun n hn => ?_, fun hn => (by rw [Hfin.out] at hn; cases hn), hbr⟩
          rw [Hfin.out] at hn
          injection hn with hn
          subst hn; rfl
    · have hsz : (⟨(c :: q).toArray⟩ : ByteArray).size = q.length + 1 := by simp [ByteArray.size]
      have hz2 : ((c.toNat : Int) != 48) = true := by
        rw [bne_iff_ne]; intro h
        exact hz (UInt8.toNat_inj.1 (by simp; omega))
      have Hz2 := Lib.hid hz2; clear hz2
      have hz3 : ¬ (c = 48 ∧ q = []) := fun h => hz h.1
      have Hsz0 := Lib.hid hsz; clear hsz
      go_enter Tryz.func104, Tryz.ntmps104
      go_wp2_with (go_at_call 48; refine (need_is (by simp [byte0, Hz2.out]) _).mono ?_; rintro e w' ⟨rfl, rfl⟩)
      go_loopw [2] (fun n wr => ∃ pos : Nat, pos ≤ (⟨(c :: q).toArray⟩ : ByteArray).size ∧ wr.heap[w.heap.size]? = some (.stringIter (⟨(c :: q).toArray⟩ : ByteArray) pos) ∧ Below w.heap.size w wr ∧ n = .int .i64 (numL ((⟨(c :: q).toArray⟩ : ByteArray).data.toList.take pos)) ∧ ((⟨(c :: q).toArray⟩ : ByteArray).data.toList.take pos).all isDig = true) (fun _ wr => (⟨(c :: q).toArray⟩ : ByteArray).size - wr.iterPos w.heap.size)
      case atStart => exact ⟨0, Nat.zero_le _, World.iter_heap w (⟨(c :: q).toArray⟩ : ByteArray) 0, (Below.refl _ _).alloc (Nat.le_refl _) _, rfl, rfl⟩
      case round =>
        obtain ⟨pos, hps, hk, hbr, rfl, hal⟩ := hrel
        have hsz12 : (⟨(c :: q).toArray⟩ : ByteArray).size ≤ 12 := by rw [Hsz0.out]; omega
        have hlt12 := numL_lt ((⟨(c :: q).toArray⟩ : ByteArray).data.toList.take pos) (List.all_eq_true.1 hal)
        have hp10 : numL ((⟨(c :: q).toArray⟩ : ByteArray).data.toList.take pos) < 1000000000000 := by
          have h1 : ((⟨(c :: q).toArray⟩ : ByteArray).data.toList.take pos).length ≤ 12 := by rw [List.length_take]; omega
          have h2 : 10 ^ ((⟨(c :: q).toArray⟩ : ByteArray).data.toList.take pos).length ≤ 10 ^ 12 := Nat.pow_le_pow_right (by omega) h1
          omega
        clear hlt12
        by_cases hp : pos < (⟨(c :: q).toArray⟩ : ByteArray).size
        · have hst := decode_step (⟨(c :: q).toArray⟩ : ByteArray) pos hp
          have hnext : ∀ ty, (Instr.next (.pointer (some ⟨w.heap.size, 0, none⟩)) true ty).run Tryz.prog wr = _ := fun ty => Lib.run_next_any_at wr w.heap.size (⟨(c :: q).toArray⟩ : ByteArray) pos ty hk hp
          have hfit := hst.fits
          have hone := hst.pos1
          have hbd := hst.bound
          have hstp := fun h1 h2 => figure_step hst hp h1 h2 hal
          have hstop := figure_stop hst hp
          rw [show (⟨(c :: q).toArray⟩ : ByteArray).data.toList = c :: q from rfl] at hstop
          have Hstp := Lib.hid hstp; clear hstp
          have Hstop := Lib.hid hstop; clear hstop
          clear hst hal
          have hk1 := Lib.iterAt_heap wr w.heap.size (⟨(c :: q).toArray⟩ : ByteArray) pos (pos + (Utf8.decode (⟨(c :: q).toArray⟩ : ByteArray) pos).2) hk
          have hb1 := Lib.below_iterAt hbr (Nat.le_refl w.heap.size) (⟨(c :: q).toArray⟩ : ByteArray) (pos + (Utf8.decode (⟨(c :: q).toArray⟩ : ByteArray) pos).2)
          generalize (Utf8.decode (⟨(c :: q).toArray⟩ : ByteArray) pos).1 = r at *
          generalize (Utf8.decode (⟨(c :: q).toArray⟩ : ByteArray) pos).2 = n at *
          generalize hnn : numL ((⟨(c :: q).toArray⟩ : ByteArray).data.toList.take pos) = m at *
          have Hnn := Lib.hid hnn; clear hnn
          generalize hw1 : wr.iterAt w.heap.size (⟨(c :: q).toArray⟩ : ByteArray) (pos + n) = w1 at *
          have Hw1 := Lib.hid hw1; clear hw1
          by_cases h1 : 48 ≤ (r : Int)
          · by_cases h2 : (r : Int) ≤ 57
            · have e1 : IntKind.i32.wrap ((r : Int) - 48) = (r : Int) - 48 := IntWalk.i32_in _ (by omega)
              go_wp2_with (go_at_call 48; refine (need_is rfl _).mono ?_; rintro e w' ⟨rfl, rfl⟩)
              go_roundw
              case rel =>
                obtain ⟨rfl, q2, q3⟩ := Hstp.out h1 h2
                exact ⟨pos + 1, hfit, hk1, hb1, by rw [q2]; push_cast; congr 1; omega, q3⟩
              case measure => simp [World.iterPos, hk, hk1]; omega
            · have hnone := Hstop.out (by omega)
              have Hn := Lib.hid hnone; clear hnone
              go_wp2_with (go_at_call 48; refine (need_not rfl _).mono ?_; rintro e w' ⟨rfl, rfl⟩)
              exact ⟨rfl, ⟨fun n hn => (by rw [Hn.out] at hn; cases hn), fun _ => rfl, hb1⟩⟩
          · have hnone := Hstop.out (by omega)
            have Hn := Lib.hid hnone; clear hnone
            go_wp2_with (go_at_call 48; refine (need_not rfl _).mono ?_; rintro e w' ⟨rfl, rfl⟩)
            exact ⟨rfl, ⟨fun n hn => (by rw [Hn.out] at hn; cases hn), fun _ => rfl, hb1⟩⟩
        · have hnext : ∀ ty, (Instr.next (.pointer (some ⟨w.heap.size, 0, none⟩)) true ty).run Tryz.prog wr = _ := fun ty => Lib.run_next_end_at wr w.heap.size (⟨(c :: q).toArray⟩ : ByteArray) pos ty hk hp
          have ht : (⟨(c :: q).toArray⟩ : ByteArray).data.toList.take pos = (⟨(c :: q).toArray⟩ : ByteArray).data.toList := List.take_of_length_le (by simp; simp [ByteArray.size] at hp; omega)
          rw [ht, show (⟨(c :: q).toArray⟩ : ByteArray).data.toList = c :: q from rfl] at hal ⊢
          have hfin := Hall.out hal
          have Hfin := Lib.hid hfin; clear hfin hal ht
          go_wp2_with fail
          go_ret
          refine ⟨fun n hn => ?_, fun hn => (by rw [Hfin.out] at hn; cases hn), hbr⟩
          rw [Hfin.out] at hn
          injection hn with hn
          subst hn; rfl

theorem figure_good {l : List UInt8} {n : Nat} (h : figureP l = some n) (hl : l.length ≤ 4000000000) (w : World) : Calls Tryz.prog 104 #[str l] w fun e w' => e = .returned (.int .i64 n) ∧ Below w.heap.size w w' :=
  (figure_walk l hl w).mono fun _ _ ⟨h1, _, h3⟩ => ⟨h1 n h, h3⟩
theorem figure_bad {l : List UInt8} (h : figureP l = none) (hl : l.length ≤ 4000000000) (w : World) : Calls Tryz.prog 104 #[str l] w fun e w' => e = .panicked misfit ∧ Below w.heap.size w w' :=
  (figure_walk l hl w).mono fun _ _ ⟨_, h2, h3⟩ => ⟨h2 h, h3⟩
theorem str_of (s : ByteArray) : Value.string s = str s.data.toList := rfl

theorem countB_bd (c : UInt8) (l : List UInt8) : (partsL c l).length ≤ l.length + 1 := by
  induction l with
  | nil => simp [partsL]
  | cons x l ih =>
    rw [partsL]
    split
    · simp; omega
    · split
      · simp
      · rename_i h; rw [h] at ih; simp at ih ⊢; omega
theorem split_walk (l : List UInt8) (c : UInt8) (hl : l.length ≤ 1000000) (m : Int) (w : World) (hm : w.cell? ⟨1, 0, none⟩ = some (.int .i64 m)) :
    Calls Tryz.prog 102 #[str l, .string ⟨#[c]⟩] w fun e w' => e = .returned (.slice (some ⟨w.heap.size, 0, none⟩) (partsL c l).length (partsL c l).length) ∧ RowsR strR 1 w'.heap.size w' (some ⟨w.heap.size, 0, none⟩) (partsL c l) ∧ Below w.heap.size w w' := by
  refine (Tryz.strings_Split ⟨l.toArray⟩ ⟨#[c]⟩ m w (by simp [ByteArray.size]; omega) hm (by simp [ByteArray.size])).mono ?_
  rintro e w' ⟨rfl, rfl⟩
  obtain ⟨h1, h2⟩ := split_one ⟨l.toArray⟩ c
  have e1 : (⟨l.toArray⟩ : ByteArray).data.toList = l := rfl
  rw [e1] at h1 h2
  refine ⟨by rw [h2], ?_, (Below.refl _ _).alloc (Nat.le_refl _) _⟩
  intro j hj
  have hlen : (Lib.splitB ⟨#[c]⟩ 0 (Lib.countB ⟨l.toArray⟩ ⟨#[c]⟩) ⟨l.toArray⟩).length = (partsL c l).length := by rw [← h1, List.length_map]
  refine ⟨w.heap.size, 0, [str (partsL c l)[j]], rfl, by simp, rfl, rfl, fun i hi => ?_⟩
  obtain rfl : i = 0 := by omega
  rw [cell_of_block (block_new w _)]
  simp only [Nat.zero_add, Nat.mul_one, Nat.add_zero, List.getElem?_toArray, List.getElem?_map, List.getElem?_cons_zero]
  rw [List.getElem?_eq_getElem (by omega), Option.map_some, str_of]
  have : (partsL c l)[j] = ((Lib.splitB ⟨#[c]⟩ 0 (Lib.countB ⟨l.toArray⟩ ⟨#[c]⟩) ⟨l.toArray⟩)[j]'(by omega)).data.toList := by
    simp only [← h1, List.getElem_map]
  rw [this]

set_option maxRecDepth 100000 in
set_option maxHeartbeats 1000000 in
theorem lines_walk (t : List UInt8) (ht : t.length ≤ 100000) (N : Nat) (w : World) (hE : Env N w) :
    Calls Tryz.prog 67 #[str t] w fun e w' => (∀ ls, linesP t = some ls → ∃ a cap, e = .returned (.slice a ls.length cap) ∧ RowsR strR 1 w'.heap.size w' a ls ∧ ls.length ≤ cap ∧ cap ≤ 9223372036854775807 ∧ (a = none → cap = 0)) ∧ (linesP t = none → e = .panicked misfit) ∧ Below w.heap.size w w' := by
  by_cases h0 : t = []
  · subst h0
    have hp : linesP [] = some [] := rfl
    have Hp := Lib.hid hp; clear hp
    go_enter Tryz.func67, Tryz.ntmps67
    go_wp2_with fail
    go_ret
    refine ⟨fun ls hls => ?_, fun h => (by rw [Hp.out] at h; cases h), Below.refl _ _⟩
    rw [Hp.out] at hls
    injection hls with hls
    subst hls
    exact ⟨none, 0, rfl, RowsR.none rfl, by simp, by omega, fun _ => rfl⟩
  · obtain ⟨m, hm⟩ := hE.max
    have hsuf : Lib.hasSuffix t [10] = decide (t.getLast? = some 10) := by
      unfold Lib.hasSuffix
      rw [Bool.eq_iff_iff, List.isSuffixOf_iff_suffix, decide_eq_true_eq, List.getLast?_eq_some_iff]
      constructor
      · rintro ⟨a, ha⟩; exact ⟨a, ha.symm⟩
      · rintro ⟨a, ha⟩; exact ⟨a, ha.symm⟩
    have htrim : t.getLast? = some 10 → Lib.trimSuffix t [10] = t.dropLast := by
      intro h
      unfold Lib.trimSuffix
      rw [hsuf, decide_eq_true h, if_pos rfl, List.dropLast_eq_take]; rfl
    have h101 := fun W => Tryz.strings_HasSuffix ⟨t.toArray⟩ ⟨#[10]⟩ W (by simp [ByteArray.size]; omega)
    have h103 := fun W => Tryz.strings_TrimSuffix ⟨t.toArray⟩ ⟨#[10]⟩ W (by simp [ByteArray.size]; omega)
    have e1 : (⟨t.toArray⟩ : ByteArray).data.toList = t := rfl
    have e2 : (⟨#[10]⟩ : ByteArray).data.toList = [10] := rfl
    rw [e1, e2, hsuf] at h101
    rw [e1, e2] at h103
    have hp : linesP t = if t.getLast? = some 10 then some (partsL 10 t.dropLast) else none := by unfold linesP; rw [if_neg h0]
    have ht0 : t.isEmpty = false := by simpa using h0
    clear e1 e2
    by_cases h10 : t.getLast? = some 10
    · rw [decide_eq_true h10] at h101
      rw [htrim h10] at h103
      rw [if_pos h10] at hp
      have h102 := fun W (h : W.cell? ⟨1, 0, none⟩ = some (.int .i64 m)) => split_walk t.dropLast 10 (by rw [List.length_dropLast]; omega) m W h
      have hpl := (partsL_ne 10 t.dropLast)
      have hcnt : (partsL 10 t.dropLast).length ≤ 1000000 := by
        have := countB_bd 10 t.dropLast
        rw [List.length_dropLast] at this; omega
      have Hp := Lib.hid hp; clear hp
      have H101 := Lib.hid h101; clear h101
      have H103 := Lib.hid h103; clear h103
      have H102 := Lib.hid h102; clear h102
      have Hm := Lib.hid hm; clear hm
      clear hsuf htrim h10 hpl
      generalize t.dropLast = d at *
      generalize partsL 10 d = ls at *
      go_enter Tryz.func67, Tryz.ntmps67
      go_wp2_with (first
        | (go_at_call 101; refine (H101.out _).mono ?_; rintro e w1 ⟨rfl, rfl⟩)
        | (go_at_call 48; refine (need_is rfl _).mono ?_; rintro e w2 ⟨rfl, rfl⟩)
        | (go_at_call 103; refine (H103.out _).mono ?_; rintro e w3 ⟨rfl, rfl⟩)
        | (go_at_call 102; refine (H102.out _ Hm.out).mono ?_; rintro e w4 ⟨rfl, hr, hb⟩; have Hr := Lib.hid hr; clear hr))
      go_ret
      refine ⟨fun ls' hls => ?_, fun h => (by rw [Hp.out] at h; cases h), hb⟩
      rw [Hp.out] at hls
      injection hls with hls
      subst hls
      exact ⟨_, _, rfl, Hr.out, Nat.le_refl _, by omega, fun h => by cases h⟩
    · rw [decide_eq_false h10] at h101
      rw [if_neg h10] at hp
      have Hp := Lib.hid hp; clear hp
      have H101 := Lib.hid h101; clear h101
      clear hsuf htrim h10 h103
      go_enter Tryz.func67, Tryz.ntmps67
      go_wp2_with (first
        | (go_at_call 101; refine (H101.out _).mono ?_; rintro e w1 ⟨rfl, rfl⟩)
        | (go_at_call 48; refine (need_not rfl _).mono ?_; rintro e w2 ⟨rfl, rfl⟩))
      exact ⟨rfl, ⟨fun ls' hls => (by rw [Hp.out] at hls; cases hls), fun _ => rfl, Below.refl _ _⟩⟩
end Go.Proofs.YtjmhpfedglindaaGreatDoor
