/- Q0: plates: what is written is read, what is read was written (plainly). -/
import Derived.Test.YtjmhpfedglindaaGreatDoorR0
import Derived.Test.YtjmhpfedglindaaGreatDoorP3
import Derived.Lib.ItoaNum
set_option linter.unusedVariables false
set_option linter.unusedSimpArgs false
namespace Go.Proofs.YtjmhpfedglindaaGreatDoor
theorem natBits_low (v z k : Nat) (hk : k ≤ z) : natBits (2 ^ z + v) k = natBits v k := by
  induction k with
  | zero => rfl
  | succ k ih =>
    rw [natBits, natBits, ih (by omega), Nat.testBit_two_pow_add_gt (by omega)]
theorem natBits_lead (v z : Nat) (h : v < 2 ^ z) : natBits (2 ^ z + v) (z + 1) = true :: natBits v z := by
  rw [natBits, natBits_low v z z (Nat.le_refl _), Nat.testBit_two_pow_add_eq, Nat.testBit_lt_two_pow h]; rfl
theorem natBits_zeros (n k m : Nat) (h : n < 2 ^ k) : natBits n (m + k) = List.replicate m false ++ natBits n k := by
  induction m with
  | zero => simp
  | succ m ih =>
    have e : m + 1 + k = (m + k) + 1 := by omega
    rw [e, natBits, ih, List.replicate_succ, Nat.testBit_lt_two_pow (Nat.lt_of_lt_of_le h (Nat.pow_le_pow_right (by omega) (by omega)))]; rfl
theorem natBits_valB (t : List Bool) : natBits (valB t) t.length = t := by
  induction t with
  | nil => rfl
  | cons b t ih =>
    have hv := valB_lt t
    rw [valB_cons, List.length_cons]
    cases b with
    | true => rw [Bool.toNat_true, Nat.one_mul, natBits_lead _ _ hv, ih]
    | false => rw [Bool.toNat_false, Nat.zero_mul, Nat.zero_add, natBits, ih, Nat.testBit_lt_two_pow hv]
theorem natBits_valB' (t : List Bool) (k : Nat) (h : t.length = k) : natBits (valB t) k = t := by subst h; exact natBits_valB t
theorem bitLen_lead (v z : Nat) (hz : z ≤ 20) (h : v < 2 ^ z) : Lib.bitLen (2 ^ z + v) = z + 1 := by
  have hp : 0 < 2 ^ z := Nat.pow_pos (by omega)
  have h20 : 2 ^ z ≤ 2 ^ 20 := Nat.pow_le_pow_right (by omega) hz
  obtain ⟨h1, h2, h3⟩ := Lib.bitLenAux_bounds 64 (2 ^ z + v) (by omega) (by omega)
  change 1 ≤ Lib.bitLen _ at h1
  change 2 ^ (Lib.bitLen _ - 1) ≤ _ at h2
  change _ < 2 ^ Lib.bitLen _ at h3
  generalize Lib.bitLen (2 ^ z + v) = B at *
  have a : 2 ^ z < 2 ^ B := by omega
  have b : 2 ^ (B - 1) < 2 ^ (z + 1) := by rw [Nat.pow_succ]; omega
  have a := (Nat.pow_lt_pow_iff_right (by omega : 1 < 2)).1 a
  have b := (Nat.pow_lt_pow_iff_right (by omega : 1 < 2)).1 b
  omega
theorem gammaB_lead (v z : Nat) (hz : z ≤ 20) (h : v < 2 ^ z) : gammaB (2 ^ z + v) = List.replicate z false ++ true :: natBits v z := by
  have e : 2 * (z + 1) - 1 = z + (z + 1) := by omega
  rw [gammaB, bitLen_lead v z hz h, e, natBits_zeros _ (z + 1) z (by rw [Nat.pow_succ]; omega), natBits_lead v z h]
theorem lead_form (n : Nat) (h0 : 0 < n) (h : n < 131072) : ∃ z v, z ≤ 16 ∧ v < 2 ^ z ∧ n = 2 ^ z + v := by
  obtain ⟨h1, h2, h3⟩ := Lib.bitLenAux_bounds 64 n (by omega) (by omega)
  generalize Lib.bitLenAux 64 n = B at *
  obtain ⟨z, rfl⟩ : ∃ z, B = z + 1 := ⟨B - 1, by omega⟩
  rw [Nat.add_sub_cancel] at h2
  rw [Nat.pow_succ] at h3
  have b : 2 ^ z < 2 ^ 17 := by omega
  have b := (Nat.pow_lt_pow_iff_right (by omega : 1 < 2)).1 b
  exact ⟨z, n - 2 ^ z, by omega, by omega, by omega⟩
theorem gammaP_zeros (z k : Nat) (l : List Bool) (h : k + z ≤ 16) : gammaP k (List.replicate z false ++ l) = gammaP (k + z) l := by
  induction z generalizing k with
  | zero => rfl
  | succ z ih =>
    rw [List.replicate_succ, List.cons_append, gammaP, if_pos (by omega), ih (k + 1) (by omega)]
    congr 1; omega
theorem gammaP_lead (t r : List Bool) : gammaP t.length (true :: (t ++ r)) = some (2 ^ t.length + valB t, r) := by
  simp [gammaP]
theorem gammaP_write (n : Nat) (r : List Bool) (h0 : 0 < n) (h : n < 131072) : gammaP 0 (gammaB n ++ r) = some (n, r) := by
  obtain ⟨z, v, hz, hv, rfl⟩ := lead_form n h0 h
  rw [gammaB_lead v z (by omega) hv, List.append_assoc, gammaP_zeros z 0 _ (by omega), Nat.zero_add]
  have := gammaP_lead (natBits v z) r
  rw [natBits_length, valB_natBits v z hv] at this
  exact this
theorem gammaP_read : ∀ (l : List Bool) (z n : Nat) (r : List Bool), z ≤ 16 → gammaP z l = some (n, r) → List.replicate z false ++ l = gammaB n ++ r ∧ 0 < n ∧ n < 131072 := by
  intro l
  induction l with
  | nil => intro z n r hz h; simp [gammaP] at h
  | cons c l ih =>
    intro z n r hz h
    cases c with
    | true =>
      simp only [gammaP] at h
      split at h
      · rename_i hzl
        simp only [Option.some.injEq, Prod.mk.injEq] at h
        obtain ⟨rfl, rfl⟩ := h
        have hv := valB_lt (l.take z)
        have hlz : (l.take z).length = z := by rw [List.length_take]; omega
        rw [hlz] at hv
        have hp : 0 < 2 ^ z := Nat.pow_pos (by omega)
        have h2 : 2 ^ z ≤ 2 ^ 16 := Nat.pow_le_pow_right (by omega) hz
        refine ⟨?_, by omega, by omega⟩
        rw [gammaB_lead _ z (by omega) hv, natBits_valB' _ _ hlz, List.append_assoc, List.cons_append, List.take_append_drop]
      · cases h
    | false =>
      simp only [gammaP] at h
      split at h
      · rename_i h16
        obtain ⟨h1, h2⟩ := ih (z + 1) n r h16 h
        refine ⟨?_, h2⟩
        rw [← h1, List.replicate_succ', List.append_assoc]; rfl
      · cases h
theorem onesB_cons (b : Bool) (l : List Bool) : onesB (b :: l) = b.toNat + onesB l := by simp [onesB]
theorem onesB_parity (l : List Bool) : onesB (l ++ [decide (onesB l % 2 = 1)]) % 2 = 0 := by
  rw [onesB_append, onesB_cons]
  by_cases h : onesB l % 2 = 1
  · rw [decide_eq_true h]; simp [onesB] at *; omega
  · rw [decide_eq_false h]; simp [onesB] at *; omega
theorem plateP_write (x : Plate) (last : Int) (r : List Bool) (hx : x.okB = true) (h0 : 0 ≤ last) (h1 : last < x.number) : plateP last (plateB x last ++ r) = some (x, r) := by
  obtain ⟨n, c, d⟩ := x
  simp only [Plate.okB, inB, Bool.and_eq_true, decide_eq_true_eq] at hx
  have hpar := onesB_parity (plateBody ⟨n, c, d⟩ last)
  unfold plateB
  generalize hp : decide (onesB (plateBody ⟨n, c, d⟩ last) % 2 = 1) = p at *
  have h1 : last < n := h1
  have e : plateBody ⟨n, c, d⟩ last ++ [p] ++ r = gammaB (n - last).toNat ++ (natBits c.toNat 3 ++ (natBits d.toNat 18 ++ (p :: r))) := by simp [plateBody]
  have hl1 := natBits_length c.toNat 3
  have hl2 := natBits_length d.toNat 18
  have hv1 := valB_natBits c.toNat 3 (by omega)
  have hv2 := valB_natBits d.toNat 18 (by omega)
  have ho : onesB (plateBody ⟨n, c, d⟩ last ++ [p] ++ r) = onesB (plateBody ⟨n, c, d⟩ last ++ [p]) + onesB r := onesB_append _ _
  unfold plateP
  rw [ho, e, gammaP_write _ _ (by omega) (by omega)]
  generalize natBits c.toNat 3 = a at *
  generalize natBits d.toNat 18 = b at *
  have d3 : (a ++ (b ++ p :: r)).drop 3 = b ++ p :: r := by rw [← hl1]; exact List.drop_left
  have t3 : (a ++ (b ++ p :: r)).take 3 = a := by rw [← hl1]; exact List.take_left
  have t18 : (b ++ p :: r).take 18 = b := by rw [← hl2]; exact List.take_left
  have d22 : (a ++ (b ++ p :: r)).drop 22 = r := by
    have : (a ++ (b ++ p :: r)) = (a ++ b ++ [p]) ++ r := by simp
    have hl : (a ++ b ++ [p]).length = 22 := by simp [hl1, hl2]
    rw [this, ← hl]; exact List.drop_left
  have hlen : 22 ≤ (a ++ (b ++ p :: r)).length := by simp [hl1, hl2]; omega
  simp only []
  rw [if_pos hlen, d22, d3, t3, t18, hv1, hv2, if_pos (by omega)]
  simp only [Option.some.injEq, Prod.mk.injEq, Plate.mk.injEq, and_true]
  omega
theorem plateP_read (last : Int) (l : List Bool) (x : Plate) (r : List Bool) (h : plateP last l = some (x, r)) : l = plateB x last ++ r := by
  unfold plateP at h
  split at h
  · cases h
  · rename_i n R hg
    obtain ⟨h1, h2, h3⟩ := gammaP_read l 0 n R (by omega) hg
    simp only [List.replicate_zero, List.nil_append] at h1
    split at h
    · rename_i h22
      split at h
      · rename_i hpar
        simp only [Option.some.injEq, Prod.mk.injEq] at h
        obtain ⟨rfl, rfl⟩ := h
        have e1 : (last + (n : Int) - last).toNat = n := by omega
        have hr1 : R = R.take 3 ++ ((R.drop 3).take 18 ++ (R[21] :: R.drop 22)) := by
          have a : R = R.take 3 ++ R.drop 3 := (List.take_append_drop 3 R).symm
          have b : R.drop 3 = (R.drop 3).take 18 ++ (R.drop 3).drop 18 := (List.take_append_drop 18 _).symm
          have c : (R.drop 3).drop 18 = R.drop 21 := by rw [List.drop_drop]
          have d : R.drop 21 = R[21] :: R.drop 22 := List.drop_eq_getElem_cons (by omega)
          rw [c, d] at b
          rw [b] at a
          exact a
        have ht3 : natBits (valB (R.take 3)) 3 = R.take 3 := natBits_valB' _ _ (by rw [List.length_take]; omega)
        have ht18 : natBits (valB ((R.drop 3).take 18)) 18 = (R.drop 3).take 18 := natBits_valB' _ _ (by rw [List.length_take, List.length_drop]; omega)
        have hbody : plateBody ⟨last + n, valB (R.take 3), valB ((R.drop 3).take 18)⟩ last = gammaB n ++ R.take 3 ++ (R.drop 3).take 18 := by
          simp only [plateBody, e1, Int.toNat_natCast, ht3, ht18]
        have hl : l = (gammaB n ++ R.take 3 ++ (R.drop 3).take 18) ++ R[21] :: R.drop 22 := by
          rw [h1, List.append_assoc, List.append_assoc, ← hr1]
        unfold plateB
        rw [hbody]
        rw [hl, onesB_append, onesB_cons] at hpar
        generalize gammaB n ++ R.take 3 ++ (R.drop 3).take 18 = B at *
        generalize R[21] = p at *
        generalize R.drop 22 = r at *
        have hp : decide (onesB B % 2 = 1) = p := by
          cases p with
          | true => rw [Bool.toNat_true] at hpar; exact decide_eq_true (by omega)
          | false => rw [Bool.toNat_false] at hpar; exact decide_eq_false (by omega)
        rw [hp, hl]; simp
      · cases h
    · cases h
def climbsB : Int → List Plate → Prop
  | _, [] => True
  | last, x :: l => last < x.number ∧ climbsB x.number l
theorem platesA_write : ∀ (l acc : List Plate) (last : Int) (r : List Bool), (∀ x ∈ l, x.okB = true) → 0 ≤ last → climbsB last l → platesA l.length acc last (platesChain last l ++ r) = some (acc ++ l, r) := by
  intro l
  induction l with
  | nil => intro acc last r _ _ _; simp [platesA, platesChain]
  | cons x l ih =>
    intro acc last r hok h0 hc
    rw [platesChain, List.append_assoc, List.length_cons, platesA, plateP_write x last _ (hok x (by simp)) h0 hc.1]
    simp only []
    rw [ih (acc ++ [x]) x.number r (fun y hy => hok y (by simp [hy])) (by have := hc.1; omega) hc.2]
    simp
theorem platesA_read : ∀ (k : Nat) (acc : List Plate) (last : Int) (l : List Bool) (xs : List Plate) (r : List Bool), platesA k acc last l = some (xs, r) → ∃ ys, xs = acc ++ ys ∧ ys.length = k ∧ l = platesChain last ys ++ r := by
  intro k
  induction k with
  | zero =>
    intro acc last l xs r h
    simp only [platesA, Option.some.injEq, Prod.mk.injEq] at h
    obtain ⟨rfl, rfl⟩ := h
    exact ⟨[], by simp, rfl, by simp [platesChain]⟩
  | succ k ih =>
    intro acc last l xs r h
    simp only [platesA] at h
    split at h
    · cases h
    · rename_i x R hp
      obtain ⟨ys, rfl, rfl, hR⟩ := ih _ _ _ _ _ h
      refine ⟨x :: ys, by simp, rfl, ?_⟩
      rw [plateP_read _ _ _ _ hp, hR, platesChain, List.append_assoc]
theorem packB_cons (c l : List Bool) (h : c.length = 8) : packB (c ++ l) = UInt8.ofNat (valB c) :: packB l := by
  unfold packB
  have e : (c ++ l).length / 8 = l.length / 8 + 1 := by rw [List.length_append]; omega
  rw [e, List.range_succ_eq_map, List.map_cons, List.map_map]
  congr 1
  · have : (List.drop (8 * 0) (c ++ l)).take 8 = c := by rw [← h]; simp
    rw [this]
  · refine List.map_congr_left fun i _ => ?_
    have : (c ++ l).drop (8 * i.succ) = l.drop (8 * i) := by
      have e : 8 * i.succ = c.length + 8 * i := by omega
      rw [e, List.drop_append, List.drop_of_length_le (by omega)]; simp
    simp only [Function.comp, this]
theorem packB_bitsOf (bs : List UInt8) : packB (bitsOf bs) = bs := by
  induction bs with
  | nil => rfl
  | cons b bs ih =>
    rw [show bitsOf (b :: bs) = natBits b.toNat 8 ++ bitsOf bs from rfl, packB_cons _ _ (natBits_length _ _), ih, valB_natBits _ _ (by have := b.toNat_lt; omega)]
    simp
theorem bitsOf_packB : ∀ (k : Nat) (l : List Bool), l.length = 8 * k → bitsOf (packB l) = l := by
  intro k
  induction k with
  | zero => intro l h; have : l = [] := List.eq_nil_of_length_eq_zero (by omega); subst this; rfl
  | succ k ih =>
    intro l h
    have ht : (l.take 8).length = 8 := by rw [List.length_take]; omega
    have hs : l = l.take 8 ++ l.drop 8 := (List.take_append_drop 8 l).symm
    have hp := packB_cons (l.take 8) (l.drop 8) ht
    rw [← hs] at hp
    have hv := valB_lt (l.take 8)
    rw [ht] at hv
    rw [hp, show ∀ b bs, bitsOf (b :: bs) = natBits b.toNat 8 ++ bitsOf bs from fun _ _ => rfl, ih (l.drop 8) (by rw [List.length_drop]; omega)]
    have e : (UInt8.ofNat (valB (l.take 8))).toNat = valB (l.take 8) := by rw [UInt8.toNat_ofNat']; omega
    rw [e, natBits_valB' _ _ ht]; exact hs.symm
theorem onesB_zero : ∀ (r : List Bool), onesB r = 0 → r = List.replicate r.length false := by
  intro r
  induction r with
  | nil => intro _; rfl
  | cons b r ih =>
    intro h
    rw [onesB_cons] at h
    rw [List.length_cons, List.replicate_succ, ← ih (by omega)]
    cases b with
    | true => simp at h
    | false => rfl
theorem climbs_of_rises : ∀ (l : List Plate) (last : Int), (∀ x ∈ l, last < x.number) → risesB (l.map Plate.number) = true → climbsB last l := by
  intro l
  induction l with
  | nil => intro _ _ _; trivial
  | cons x l ih =>
    intro last h hr
    refine ⟨h x (by simp), ?_⟩
    cases l with
    | nil => trivial
    | cons y l =>
      simp only [List.map_cons, risesB, Bool.and_eq_true, decide_eq_true_eq] at hr
      refine ih x.number ?_ (by simpa using hr.2)
      intro z hz
      have hall : ∀ (l : List Plate) (a : Int), risesB (a :: l.map Plate.number) = true → ∀ z ∈ l, a < z.number := by
        intro l
        induction l with
        | nil => intro a _ z hz; cases hz
        | cons w l ih2 =>
          intro a h z hz
          simp only [List.map_cons, risesB, Bool.and_eq_true, decide_eq_true_eq] at h
          rcases List.mem_cons.1 hz with rfl | hz
          · exact h.1
          · have := ih2 w.number h.2 z hz; omega
      exact hall (y :: l) x.number (by simpa [risesB] using hr) z hz
theorem plates_parts {xs : List Plate} (h : platesErr xs = 0) : xs.length ≤ 60 ∧ (∀ x ∈ xs, x.okB = true) ∧ climbsB 0 xs := by
  unfold platesErr errOf at h
  split at h
  · omega
  · split at h
    · rename_i hall
      split at h
      · rename_i hr
        rw [List.all_eq_true] at hall
        refine ⟨by omega, hall, climbs_of_rises xs 0 (fun x hx => ?_) hr⟩
        have := hall x hx
        simp only [Plate.okB, inB, Bool.and_eq_true, decide_eq_true_eq] at this
        omega
      · omega
    · omega
theorem pad_bits (xs : List Plate) : bitsOf (platesL xs) = padB (platesBits xs) := by
  unfold platesL
  exact bitsOf_packB ((padB (platesBits xs)).length / 8) _ (by have : (padB (platesBits xs)).length % 8 = 0 := by { simp [padB]; omega }
                                                               omega)
/-- What was written is read. -/
theorem readPl_write (xs : List Plate) (h : platesErr xs = 0) : readPl (platesL xs) = some xs := by
  obtain ⟨h1, h2, h3⟩ := plates_parts h
  have hb := pad_bits xs
  unfold readPl
  rw [hb]
  unfold padB platesBits
  generalize hk : (8 - (natBits xs.length 8 ++ platesChain 0 xs).length % 8) % 8 = k
  have hk8 : k < 8 := by omega
  have hl := natBits_length xs.length 8
  have hv := valB_natBits xs.length 8 (by omega)
  rw [List.append_assoc]
  generalize natBits xs.length 8 = a at *
  rw [if_pos (by rw [List.length_append]; omega)]
  have t8 : (a ++ (platesChain 0 xs ++ List.replicate k false)).take 8 = a := by rw [← hl]; exact List.take_left
  have d8 : (a ++ (platesChain 0 xs ++ List.replicate k false)).drop 8 = platesChain 0 xs ++ List.replicate k false := by rw [← hl]; exact List.drop_left
  rw [t8, d8, hv, platesA_write xs [] 0 _ h2 (by omega) h3]
  simp only [List.nil_append]
  rw [if_pos ⟨by simp [hk8], h, by simp [onesB]⟩]
/-- What is read is what was written. -/
theorem readPl_read (bs : List UInt8) (xs : List Plate) (h : readPl bs = some xs) : platesErr xs = 0 ∧ platesL xs = bs := by
  unfold readPl at h
  split at h
  · rename_i h8
    split at h
    · cases h
    · rename_i ys r hA
      split at h
      · rename_i hc
        obtain ⟨c1, c2, c3⟩ := hc
        simp only [Option.some.injEq] at h
        subst h
        refine ⟨c2, ?_⟩
        obtain ⟨zs, hz1, hz2, hz3⟩ := platesA_read _ _ _ _ _ _ hA
        simp only [List.nil_append] at hz1
        subst hz1
        have hbl : (bitsOf bs).length % 8 = 0 := by
          have : (bitsOf bs).length = bs.length * 8 := by
            clear hA hz3 hz2 h8
            induction bs with
            | nil => rfl
            | cons b bs ih => rw [show bitsOf (b :: bs) = natBits b.toNat 8 ++ bitsOf bs from rfl, List.length_append, natBits_length, ih, List.length_cons]; omega
          omega
        have hs : bitsOf bs = (bitsOf bs).take 8 ++ (bitsOf bs).drop 8 := (List.take_append_drop 8 _).symm
        have ht8 : natBits ys.length 8 = (bitsOf bs).take 8 := by rw [hz2]; exact natBits_valB' _ _ (by rw [List.length_take]; omega)
        have hr := onesB_zero r c3
        have hall : bitsOf bs = platesBits ys ++ r := by rw [hs, hz3, platesBits, ht8, List.append_assoc]
        have hpad : padB (platesBits ys) = bitsOf bs := by
          unfold padB
          rw [hall]
          congr 1
          have : (8 - (platesBits ys).length % 8) % 8 = r.length := by
            rw [hall, List.length_append] at hbl
            omega
          rw [this]; exact hr.symm
        rw [platesL, hpad, packB_bitsOf]
      · cases h
  · cases h
end Go.Proofs.YtjmhpfedglindaaGreatDoor
